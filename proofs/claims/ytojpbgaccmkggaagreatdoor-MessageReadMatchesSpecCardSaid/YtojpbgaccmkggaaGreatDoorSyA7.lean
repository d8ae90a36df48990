/- What the claim rests on, part 7: gathered texts. -/
import Derived.WalkKit
import Derived.ProofKit
import Derived.OpenShut
import Derived.ShutString
import Derived.ChangeOld
import Derived.Carry
import Derived.Handed
import Derived.LaidMore
import Derived.Lay
import Derived.LaidHandle
import Derived.Stop.Joined
import Derived.Test.YtojpbgaccmkggaaGreatDoorSyA6
/- The document's ReadHeader. -/
namespace Go.Sym

theorem find_go (fu n : Nat) : ∀ (pre t suf : List UInt8), (∀ x ∈ t, x ≠ 58) → (suf = [] ∨ ∃ r, suf = 58 :: r) → t.length < n → pre.length + t.length + suf.length < 100000000 →
    F_R1_Find_p0 fu n (pre ++ (t ++ suf)) [58] (pre.length : Int) = some (if suf = [] then -1 else ((pre.length + t.length : Nat) : Int)) := by
  induction n with
  | zero => intro pre t suf _ _ h; exact absurd h (by omega)
  | succ n ih =>
    intro pre t suf ht hs h hb
    rw [F_R1_Find_p0, F_R1_Find_b0, show ((([58] : List UInt8).length : Nat) : Int) = 1 from rfl, nx_nat _ (by omega)]
    have one : ∀ (c : UInt8) (r : List UInt8), (List.take (((pre.length + 1 : Nat) : Int).toNat - ((pre.length : Nat) : Int).toNat) (List.drop ((pre.length : Nat) : Int).toNat (pre ++ c :: r))) = [c] := by
      intro c r
      rw [drop_mid, show ((pre.length + 1 : Nat) : Int).toNat - ((pre.length : Nat) : Int).toNat = 1 by omega]; rfl
    cases t with
    | nil =>
      rcases hs with rfl | ⟨r, rfl⟩
      · rw [bif_df (by simp <;> omega)]; rfl
      · have hl : ((pre ++ ([] ++ 58 :: r)).length : Int) = ((pre.length + r.length + 1 : Nat) : Int) := by simp; omega
        rw [hl, bif_dt (by omega), bif_dt (by omega)]
        rw [show pre ++ ([] ++ 58 :: r) = pre ++ 58 :: r from rfl, one 58 r, bif_t (by rfl)]
        rfl
    | cons c t =>
      have hc := ht c List.mem_cons_self
      simp only [List.length_cons] at h hb
      have hl : ((pre ++ (c :: t ++ suf)).length : Int) = ((pre.length + t.length + suf.length + 1 : Nat) : Int) := by simp; omega
      rw [hl, bif_dt (by omega), bif_dt (by omega)]
      rw [show pre ++ (c :: t ++ suf) = pre ++ c :: (t ++ suf) from rfl, one c (t ++ suf), bif_f (by simpa using hc)]
      have := ih (pre ++ [c]) t suf (fun x hx => ht x (List.mem_cons_of_mem _ hx)) hs (by omega) (by simp; omega)
      simp only [List.append_assoc, List.singleton_append, List.length_append, List.length_cons, List.length_nil] at this
      rw [this, show pre.length + (0 + 1) + t.length = pre.length + (t.length + 1) by omega]; rfl
theorem find_at (fu : Nat) (t r : List UInt8) (h : ∀ x ∈ t, x ≠ 58) (hf : t.length < fu) (hb : t.length + r.length < 10000000) : F_R1_Find fu (t ++ 58 :: r) [58] 0 = some (t.length : Int) := by
  have := find_go fu fu [] t (58 :: r) h (.inr ⟨r, rfl⟩) hf (by simp; omega)
  rw [if_neg (by simp)] at this
  unfold F_R1_Find
  simpa using this
theorem find_no (fu : Nat) (s : List UInt8) (h : ∀ x ∈ s, x ≠ 58) (hf : s.length < fu) (hb : s.length < 10000000) : F_R1_Find fu s [58] 0 = some (-1) := by
  have := find_go fu fu [] s [] h (.inl rfl) hf (by simp; omega)
  rw [if_pos rfl, List.append_nil] at this
  exact this
theorem p11_go (fu : Nat) (r0 : List UInt8 → Int → (Int × Int) → List Fld → Option R_R1_ReadHeader) (s0 : List UInt8) (s6 s9 : Int) (s10 : List UInt8) (s11 : Int) (m16 : Int × Int) (m17 : List Fld) (n : Nat) : ∀ (s : List UInt8), s.length < n → s.length < 100000000 →
    F_R1_ReadHeader_p11 fu r0 n s0 s6 s9 s10 s11 s m16 m17 = F_R1_ReadHeader_p12 fu r0 (fun _ _ _ _ _ _ _ _ => none) s0 s6 s9 s10 s11 (rtrim s) false m16 m17 := by
  induction n with
  | zero => intro s h; exact absurd h (by omega)
  | succ n ih =>
    intro s h hb
    rw [F_R1_ReadHeader_p11, F_R1_ReadHeader_b11]
    rcases List.eq_nil_or_concat s with rfl | ⟨t, c, rfl⟩
    · rw [bif_df (by simp)]; rfl
    · rw [List.concat_eq_append] at *
      simp only [List.length_append, List.length_cons, List.length_nil] at h hb
      rw [len_last, bif_dt (by omega), w_last _ (by omega), idx_last, Option.bind_some, rblank_eq, Option.bind_some, rtrim_snoc]
      cases bl c
      · rfl
      · unfold F_R1_ReadHeader_p12
        rw [bif_t (by rfl)]
        unfold F_R1_ReadHeader_p13
        rw [len_last, w_last _ (by omega), bif_dt (by omega), take_last, ih t (by omega) (by omega), if_pos rfl]
        rfl
theorem p14_go (fu : Nat) (r4 : Int → Int → (Int × Int) → List Fld → Option R_R1_ReadHeader) (s6 : Int) (P : List Fld) (x : Fld) (S : List Fld) (m16 : Int × Int) (n : Nat) : ∀ (pre suf : List UInt8), suf.length < n → pre.length + suf.length < fu → pre.length + suf.length < 100000000 →
    F_R1_ReadHeader_p14 fu r4 n s6 (P.length : Int) (pre.length : Int) m16 (P ++ x :: S) (pre ++ suf) = if 4000 < (trim (pre ++ suf.map clean)).length then some (0, ((1, (P.length : Int)), [])) else r4 s6 (w64 ((P.length : Int) + 1)) m16 (P ++ (x.1, trim (pre ++ suf.map clean)) :: S) := by
  induction n with
  | zero => intro pre suf h; exact absurd h (by omega)
  | succ n ih =>
    intro pre suf h hf hb
    rw [F_R1_ReadHeader_p14, F_R1_ReadHeader_b14]
    have hg : (0 ≤ (P.length : Int) ∧ (P.length : Int).toNat < (P ++ x :: S).length) := by simp
    cases suf with
    | nil =>
      rw [bif_df (by simp), List.append_nil, rTrim_eq fu pre (by simpa using hf) (by simp at hb; omega), Option.bind_some, bif_dt hg, get_mid, Option.bind_some, set_mid]
      have hg2 : (0 ≤ (P.length : Int) ∧ (P.length : Int).toNat < (P ++ (x.1, trim pre) :: S).length) := by simp
      rw [bif_dt hg2, get_mid, Option.bind_some, bif_d]
      simp only [List.map_nil, List.append_nil]
      split
      · rw [if_pos (by omega)]; rfl
      · rw [if_neg (by omega)]
    | cons c suf =>
      simp only [List.length_cons] at h hf hb
      have hc : (0 ≤ (pre.length : Int) ∧ (pre.length : Int).toNat < (pre ++ c :: suf).length) := by simp
      have fin : ∀ d, d = clean c → F_R1_ReadHeader_p14 fu r4 n s6 (P.length : Int) (w64 ((pre.length : Int) + 1)) m16 (P ++ x :: S) (pre ++ d :: suf) = if 4000 < (trim (pre ++ (c :: suf).map clean)).length then some (0, ((1, (P.length : Int)), [])) else r4 s6 (w64 ((P.length : Int) + 1)) m16 (P ++ (x.1, trim (pre ++ (c :: suf).map clean)) :: S) := by
        intro d hd
        have := ih (pre ++ [d]) suf (by omega) (by simp; omega) (by simp; omega)
        rw [nx_nat _ (by omega)]
        subst hd
        simpa using this
      rw [len_mid, bif_dt (by omega), bif_dt hc, get_mid, Option.bind_some, bif_eq8]
      unfold F_R1_ReadHeader_p15 F_R1_ReadHeader_p16
      by_cases h0 : c = 0
      · rw [if_pos h0, bif_t (by rfl), bif_dt hc, get_mid, Option.bind_some, set_mid]
        exact fin 32 (by unfold clean; rw [if_pos (.inl h0)])
      · rw [if_neg h0, bif_dt hc, Option.bind_some]
        by_cases h13 : c = 13
        · rw [bif_t (by simpa using h13), bif_dt hc, get_mid, Option.bind_some, set_mid]
          exact fin 32 (by unfold clean; rw [if_pos (.inr h13)])
        · rw [bif_f (by simpa using h13)]
          exact fin c (by unfold clean; rw [if_neg (by simp [h0, h13])])
theorem p4_go (fu n : Nat) (s6 : Nat) (m16 : Int × Int) : ∀ (pre suf : List Fld), suf.length < n → pre.length + suf.length < 100000000 → (∀ x ∈ suf, x.2.length < fu ∧ x.2.length < 100000000) →
    F_R1_ReadHeader_p4 fu n (s6 : Int) (pre.length : Int) m16 (pre ++ suf) = some (finW s6 pre suf) := by
  induction n with
  | zero => intro pre suf h; exact absurd h (by omega)
  | succ n ih =>
    intro pre suf h hb hs
    rw [F_R1_ReadHeader_p4, F_R1_ReadHeader_b4]
    cases suf with
    | nil => rw [bif_df (by simp)]; simp [finW, vlong]
    | cons x suf =>
      simp only [List.length_cons] at h hb
      obtain ⟨q1, q2⟩ := hs x List.mem_cons_self
      have hg : (0 ≤ (pre.length : Int) ∧ (pre.length : Int).toNat < (pre ++ x :: suf).length) := by simp
      have e := p14_go fu (F_R1_ReadHeader_p4 fu n) (s6 : Int) pre x suf m16 fu [] x.2 q1 (by simpa using q1) (by simpa using q2)
      simp only [List.nil_append, List.length_nil] at e
      have e : F_R1_ReadHeader_p14 fu (F_R1_ReadHeader_p4 fu n) fu (s6 : Int) (pre.length : Int) 0 m16 (pre ++ x :: suf) x.2 = _ := e
      rw [len_app, List.length_cons, bif_dt (by omega), bif_dt hg, get_mid, Option.bind_some, bif_dt (by simp [maxLen]; omega), e, finW, vlong]
      rw [show (trim (x.2.map clean)) = cval x.2 from rfl]
      by_cases hc : 4000 < (cval x.2).length
      · rw [if_pos hc, if_pos hc]
      · rw [if_neg hc, if_neg hc, nx_nat _ (by omega)]
        have := ih (pre ++ [cfld x]) suf (by omega) (by simp; omega) (fun y hy => hs y (List.mem_cons_of_mem _ hy))
        simp only [List.append_assoc, List.singleton_append, List.length_append, List.length_cons, List.length_nil] at this
        refine Eq.trans this ?_
        simp [finW]
theorem p2_eq (fu : Nat) (hfu : 100 ≤ fu) (s6 : Nat) (m16 : Int × Int) (out : List Fld) (hs : ∀ x ∈ out, x.2.length < fu ∧ x.2.length < 100000000) : F_R1_ReadHeader_p2 fu (s6 : Int) m16 out = some (finS s6 out) := by
  unfold F_R1_ReadHeader_p2 finS
  rw [bif_d]
  split
  · rw [if_pos (by omega)]; rfl
  · rename_i hl
    rw [if_neg (by omega)]
    have := p4_go fu fu s6 m16 [] out (by omega) (by simp; omega) hs
    exact this
/-- where a line ends -/
theorem p1_go (fu : Nat) (r0 : List UInt8 → Int → (Int × Int) → List Fld → Option R_R1_ReadHeader) (a : Int) (m16 : Int × Int) (m17 : List Fld) (n : Nat) : ∀ (pre t suf : List UInt8), (∀ x ∈ t, x ≠ 10) → (suf = [] ∨ ∃ r, suf = 10 :: r) → t.length < n → pre.length + t.length + suf.length < 100000000 →
    F_R1_ReadHeader_p1 fu r0 n (pre ++ (t ++ suf)) a (pre.length : Int) m16 m17 = F_R1_ReadHeader_p3 fu r0 (fun _ _ _ _ _ => none) (pre ++ (t ++ suf)) a ((pre.length + t.length : Nat) : Int) false m16 m17 := by
  induction n with
  | zero => intro pre t suf _ _ h; exact absurd h (by omega)
  | succ n ih =>
    intro pre t suf ht hs h hb
    rw [F_R1_ReadHeader_p1, F_R1_ReadHeader_b1]
    cases t with
    | nil =>
      rcases hs with rfl | ⟨r, rfl⟩
      · rw [bif_df (by simp)]; rfl
      · rw [show pre ++ ([] ++ 10 :: r) = pre ++ 10 :: r from rfl, len_mid, bif_dt (by omega), idx_mid, Option.bind_some, show ((10 : UInt8) != 10) = false from rfl]; rfl
    | cons c t =>
      have hc := ht c List.mem_cons_self
      simp only [List.length_cons] at h hb
      have hl : ((pre ++ (c :: t ++ suf)).length : Int) = ((pre.length + t.length + suf.length + 1 : Nat) : Int) := by simp; omega
      rw [hl, bif_dt (by omega), show pre ++ (c :: t ++ suf) = pre ++ c :: (t ++ suf) from rfl, idx_mid, Option.bind_some, show (c != 10) = true by simpa using hc]
      have := ih (pre ++ [c]) t suf (fun x hx => ht x (List.mem_cons_of_mem _ hx)) hs (by omega) (by simp; omega)
      simp only [List.append_assoc, List.singleton_append, List.length_append, List.length_cons, List.length_nil] at this
      have e : F_R1_ReadHeader_p3 fu r0 (F_R1_ReadHeader_p1 fu r0 n) (pre ++ c :: (t ++ suf)) a (pre.length : Int) true m16 m17 = F_R1_ReadHeader_p1 fu r0 n (pre ++ c :: (t ++ suf)) a (w64 ((pre.length : Int) + 1)) m16 m17 := rfl
      rw [e, nx_nat _ (by omega), show pre.length + 1 = pre.length + (0 + 1) by omega, this, show pre.length + (0 + 1) + t.length = pre.length + (t.length + 1) by omega]; rfl
/-- a line, and what is behind it -/
theorem line_ref (fu : Nat) (r0 : List UInt8 → Int → (Int × Int) → List Fld → Option R_R1_ReadHeader) (m16 : Int × Int) (m17 : List Fld) (pre r : List UInt8) (hf : r.length < fu) (hb : pre.length + r.length < 10000000) :
    F_R1_ReadHeader_p1 fu r0 fu (pre ++ r) (pre.length : Int) (pre.length : Int) m16 m17 = F_R1_ReadHeader_p8 fu r0 (pre ++ r) (pre.length : Int) ((pre.length + (ln r).1.length : Nat) : Int) ((pre.length + (ln r).2 : Nat) : Int) m16 m17 ∧ List.take (ln r).1.length r = (ln r).1 := by
  rcases splitAt 10 r with ⟨t, q, rfl, h⟩ | h
  · simp only [List.length_append, List.length_cons] at hf hb
    have hlen : ((pre ++ (t ++ 10 :: q)).length : Int) = ((pre.length + t.length + q.length + 1 : Nat) : Int) := by simp; omega
    rw [ln_at t q h]
    simp only
    refine ⟨?_, ?_⟩
    · rw [p1_go fu r0 (pre.length : Int) m16 m17 fu pre t (10 :: q) h (.inr ⟨q, rfl⟩) (by omega) (by simp; omega)]
      unfold F_R1_ReadHeader_p3
      rw [bif_f (by rfl), hlen, bif_dt (by omega)]
      have p7 : ∀ e : Nat, F_R1_ReadHeader_p7 fu r0 (pre ++ (t ++ 10 :: q)) (pre.length : Int) ((pre.length + t.length : Nat) : Int) (e : Int) m16 m17 = F_R1_ReadHeader_p8 fu r0 (pre ++ (t ++ 10 :: q)) (pre.length : Int) (e : Int) ((pre.length + (t.length + 1) : Nat) : Int) m16 m17 := by
        intro e
        unfold F_R1_ReadHeader_p7
        rw [hlen, bif_eq, if_neg (by omega), nx_nat _ (by omega)]; rfl
      unfold F_R1_ReadHeader_p6
      rcases List.eq_nil_or_concat t with rfl | ⟨u, c, rfl⟩
      · rw [bif_df (by simp), bif_f (by rfl)]
        exact p7 pre.length
      · rw [List.concat_eq_append] at *
        simp only [List.length_append, List.length_cons, List.length_nil] at hf hb p7 ⊢
        rw [bif_dt (by omega), show w64 (((pre.length + (u.length + (0 + 1)) : Nat) : Int) - 1) = (((pre ++ u).length : Nat) : Int) by rw [w64_eq (by omega) (by omega)]; simp; omega]
        rw [show pre ++ (u ++ [c] ++ 10 :: q) = (pre ++ u) ++ c :: 10 :: q by simp, idx_mid, Option.bind_some]
        rw [show (pre ++ u) ++ c :: 10 :: q = pre ++ (u ++ [c] ++ 10 :: q) by simp]
        by_cases hc : c = 13
        · rw [bif_t (by simpa using hc), show ((pre ++ u).length : Int) = ((pre.length + u.length : Nat) : Int) by simp, p7 (pre.length + u.length)]
          rw [show chop (u ++ [c]) = u by unfold chop; rw [List.getLast?_concat, hc]; simp]
        · rw [bif_f (by simpa using hc), p7 (pre.length + (u.length + (0 + 1)))]
          rw [show chop (u ++ [c]) = u ++ [c] by unfold chop; rw [List.getLast?_concat, if_neg (by simpa using hc)]]
          simp
    · unfold chop
      split
      · rename_i hl
        rcases List.eq_nil_or_concat t with rfl | ⟨u, c, rfl⟩
        · simp at hl
        · rw [List.concat_eq_append]; simp
      · simp
  · rw [ln_no r h]
    simp only
    refine ⟨?_, List.take_length⟩
    have := p1_go fu r0 (pre.length : Int) m16 m17 fu pre r [] h (.inl rfl) hf (by simp; omega)
    rw [List.append_nil] at this
    rw [this]
    unfold F_R1_ReadHeader_p3
    have hlen : ((pre ++ r).length : Int) = ((pre.length + r.length : Nat) : Int) := by simp
    rw [bif_f (by rfl), hlen, bif_df (by omega)]
    unfold F_R1_ReadHeader_p6 F_R1_ReadHeader_p7
    rw [bif_f (by rfl), hlen, bif_eq, if_pos rfl]
theorem rread_go (fu n : Nat) (hfu : 90000000 ≤ fu) (m16 : Int × Int) : ∀ (m : Nat) (pre r : List UInt8) (out : List Fld), r.length ≤ m → r.length < n → pre.length + r.length ≤ 12000 → SmA pre.length out →
    F_R1_ReadHeader_p0 fu n (pre ++ r) (pre.length : Int) m16 out = some (finS (hd m r pre.length out).1 (hd m r pre.length out).2) := by
  induction n with
  | zero => intro m pre r out _ h; exact absurd h (by omega)
  | succ n ih =>
    intro m pre r out hm h hs hA
    have small : ∀ (b : Nat) (l : List Fld), b ≤ 30000 → SmA b l → ∀ x ∈ l, x.2.length < fu ∧ x.2.length < 100000000 := fun b l hb hl x hx => by have := (hl.2 x hx).2; omega
    rw [F_R1_ReadHeader_p0, F_R1_ReadHeader_b0]
    by_cases h0 : r = []
    · subst h0
      rw [bif_df (by simp), p2_eq fu (by omega) pre.length m16 out (small _ out (by simp at hs; omega) hA)]
      cases m with
      | zero => rfl
      | succ m => rw [hd, if_pos rfl]
    · have hl : 1 ≤ r.length := by
        cases r with
        | nil => exact absurd rfl h0
        | cons _ _ => simp
      obtain ⟨m, rfl⟩ : ∃ j, m = j + 1 := ⟨m - 1, by omega⟩
      have k0 := ln_pos r h0
      obtain ⟨k1, k2⟩ := ln_le r
      obtain ⟨l1, l2⟩ := line_ref fu (F_R1_ReadHeader_p0 fu n) m16 out pre r (by omega) (by omega)
      rw [len_app, bif_dt (by omega), l1, hd, if_neg h0]
      unfold F_R1_ReadHeader_p8
      rw [len_app, bif_dt (by omega), drop_mid, show ((pre.length + (ln r).1.length : Nat) : Int).toNat - (pre.length : Int).toNat = (ln r).1.length by omega, l2]
      generalize hln : ln r = p at *
      obtain ⟨t, k⟩ := p
      simp only at k0 k1 k2 l2 ⊢
      have hsplit : pre ++ r = (pre ++ r.take k) ++ r.drop k := by simp
      have hpl : (pre ++ r.take k).length = pre.length + k := by simp; omega
      have next : ∀ out', SmA (pre.length + k) out' → F_R1_ReadHeader_p0 fu n (pre ++ r) ((pre.length + k : Nat) : Int) m16 out' = some (finS (hd m (r.drop k) (pre.length + k) out').1 (hd m (r.drop k) (pre.length + k) out').2) := by
        intro out' hA'
        have := ih m (pre ++ r.take k) (r.drop k) out' (by rw [List.length_drop]; omega) (by rw [List.length_drop]; omega) (by rw [hpl, List.length_drop]; omega) (by rw [hpl]; exact hA')
        rw [hpl, ← hsplit] at this
        exact this
      by_cases ht : t = []
      · rw [if_pos ht, ht, bif_t (by rfl)]
        exact p2_eq fu (by omega) (pre.length + k) m16 out (small (pre.length + k) out (by omega) (hA.mono (by omega)))
      · rw [if_neg ht, bif_f (by simpa using ht)]
        have hidx : idx t (0 : Int) = some (t.headD 0) := by
          cases t with
          | nil => exact absurd rfl ht
          | cons c t => rfl
        have begin : F_R1_ReadHeader_p9 fu (F_R1_ReadHeader_p0 fu n) (pre ++ r) (pre.length : Int) ((pre.length + k : Nat) : Int) t false m16 out = (match fldOf t with | none => some (finS pre.length out) | some x => some (finS (hd m (r.drop k) (pre.length + k) (out ++ [x])).1 (hd m (r.drop k) (pre.length + k) (out ++ [x])).2)) := by
          unfold F_R1_ReadHeader_p9 F_R1_ReadHeader_p10
          rw [bif_f (by rfl)]
          rcases splitAt 58 t with ⟨u, q, rfl, hn⟩ | hn
          · simp only [List.length_append, List.length_cons] at k2
            have hu := rtrim_len u
            have ho := hA.1
            rw [find_at fu u q hn (by omega) (by omega), Option.bind_some, bif_df (by omega), bif_dt (by rw [len_mid]; omega), take_mid, p11_go fu _ _ _ _ _ _ _ _ fu u (by omega) (by omega), fldOf_at u q hn]
            unfold F_R1_ReadHeader_p12
            rw [bif_f (by rfl), rname_eq fu (rtrim u) (by omega) (by omega), Option.bind_some]
            cases hf : fname (rtrim u)
            · rw [bif_nF, if_neg (by decide)]
              exact p2_eq fu (by omega) pre.length m16 out (small _ out (by omega) hA)
            · rw [bif_nT, if_pos rfl, nx_nat _ (by omega), bif_dt (by rw [len_mid]; omega), drop_mid1, bif_dt (by simp [rowMax]; omega)]
              exact next _ (hA.snoc k0 (by show (rtrim u).length ≤ k; omega) (by show q.length ≤ k; omega))
          · rw [find_no fu t hn (by omega) (by omega), Option.bind_some, bif_dt (by decide), fldOf_no t hn]
            exact p2_eq fu (by omega) pre.length m16 out (small _ out (by omega) hA)
        by_cases hne : out = []
        · rw [hne, bif_df (by simp), if_neg (by simp)]
          rw [hne] at begin
          rw [begin]
          cases fldOf t <;> rfl
        · rw [bif_dt (by
            cases out with
            | nil => exact absurd rfl hne
            | cons _ _ => simp only [List.length_cons]; omega), hidx, Option.bind_some, rblank_eq, Option.bind_some]
          cases hb : bl (t.headD 0)
          · rw [begin, if_neg (by simp)]
            cases fldOf t <;> rfl
          · rw [if_pos ⟨rfl, hne⟩]
            have hA2 := hA.app hne t k2
            unfold F_R1_ReadHeader_p9
            have ho := hA.1
            rcases List.eq_nil_or_concat out with rfl | ⟨u, x, rfl⟩
            · exact absurd rfl hne
            · rw [List.concat_eq_append] at *
              simp only [List.length_append, List.length_cons, List.length_nil] at ho
              have hx := (hA.2 x (by simp)).2
              have hw := appL_eq u x t (by omega)
              have hw2 : w64 (((u ++ [x]).length : Int) - 1) = (u.length : Int) := by rw [len_last, w_last _ (by omega)]
              have hg : (0 ≤ w64 (((u ++ [x]).length : Int) - 1) ∧ (w64 (((u ++ [x]).length : Int) - 1)).toNat < (u ++ [x]).length) := by rw [hw2]; simp
              rw [bif_t (by rfl), bif_dt hg, hw, show (u ++ [x])[u.length]? = some x by simp, Option.bind_some, bif_dt (by simp only [strMax]; omega), bif_dt (by rw [hw] at hg; exact hg), Option.bind_some]
              rw [show List.set (u ++ [x]) u.length (x.1, x.2 ++ t) = appL (u ++ [x]) t by rw [appL_snoc]; simp]
              exact next _ hA2
theorem rread_eq (fu : Nat) (hfu : 90000000 ≤ fu) (b : List UInt8) : F_R1_ReadHeader fu b = some (readS b) := by
  unfold F_R1_ReadHeader readS
  rw [bif_d]
  split
  · rw [if_pos (by omega)]; rfl
  · rw [if_neg (by omega)]
    have := rread_go fu fu hfu (0, 0) b.length [] b [] (Nat.le_refl _) (by omega) (by simp; omega) ⟨Nat.le_refl _, fun x hx => by cases hx⟩
    exact this
end Go.Sym
/- message.Read; what is written is read again. -/
namespace Go.Sym

theorem hd_ok : ∀ (m : Nat) (r : List UInt8) (a : Nat) (out : List Fld), SmA a out → a ≤ (hd m r a out).1 ∧ (hd m r a out).1 ≤ a + r.length ∧ SmA (hd m r a out).1 (hd m r a out).2
  | 0, r, a, out, h => ⟨Nat.le_refl _, by show a ≤ _; omega, h⟩
  | m + 1, r, a, out, h => by
    rw [hd]
    split
    · exact ⟨Nat.le_refl _, by simp only; omega, h⟩
    · rename_i h0
      have k0 := ln_pos r h0
      obtain ⟨k1, k2⟩ := ln_le r
      split
      · exact ⟨by simp only; omega, by simp only; omega, h.mono (by simp only; omega)⟩
      · split
        · rename_i hb
          obtain ⟨q1, q2, q3⟩ := hd_ok m (r.drop (ln r).2) (a + (ln r).2) (appL out (ln r).1) (h.app hb.2 _ k2)
          rw [List.length_drop] at q2
          exact ⟨by omega, by omega, q3⟩
        · split
          · exact ⟨Nat.le_refl _, by simp only; omega, h⟩
          · rename_i x hx
            obtain ⟨x1, x2, _⟩ := fldOf_len hx
            obtain ⟨q1, q2, q3⟩ := hd_ok m (r.drop (ln r).2) (a + (ln r).2) (out ++ [x]) (h.snoc k0 (by omega) (by omega))
            rw [List.length_drop] at q2
            exact ⟨by omega, by omega, q3⟩
theorem readS_ok {b : List UInt8} (h : (readS b).2.1.1 = 0) : b.length ≤ 12000 ∧ (readS b).1 = ((hd b.length b 0 []).1 : Int) ∧ (hd b.length b 0 []).1 ≤ b.length ∧ SmF (readS b).2.2 := by
  unfold readS at h ⊢
  split at h
  · exact absurd h (by simp)
  · rename_i hl
    rw [if_neg hl]
    obtain ⟨q1, q2, q3⟩ := hd_ok b.length b 0 [] ⟨Nat.le_refl _, fun x hx => by cases hx⟩
    unfold finS at h ⊢
    split at h
    · exact absurd h (by simp)
    · rename_i h60
      rw [if_neg h60]
      unfold finW at h ⊢
      split at h
      · exact absurd h (by simp)
      · refine ⟨by omega, rfl, by omega, ?_⟩
        simp only [List.nil_append]
        refine ⟨by rw [List.length_map]; omega, fun x hx => ?_⟩
        obtain ⟨y, hy, rfl⟩ := List.mem_map.1 hx
        obtain ⟨y1, y2⟩ := q3.2 y hy
        have := cval_len y.2
        exact ⟨by show y.1.length ≤ _; omega, by show (cval y.2).length ≤ _; omega⟩
/-- the message that bytes contain -/
def readM (b : List UInt8) : (List Fld × List UInt8) × (Int × Int) :=
  if (readS b).2.1.1 ≠ 0 then (([], []), (readS b).2.1) else
  if (msgS ((readS b).2.2, eo (b.drop (readS b).1.toNat))).1 ≠ 0 then (([], []), msgS ((readS b).2.2, eo (b.drop (readS b).1.toNat))) else
  (((readS b).2.2, eo (b.drop (readS b).1.toNat)), (0, 0))
theorem readS_sm {b : List UInt8} (h : (readS b).2.1.1 = 0) : SmM ((readS b).2.2, eo (b.drop (readS b).1.toNat)) := by
  obtain ⟨h1, _, _, h4⟩ := readS_ok h
  refine ⟨h4, ?_⟩
  have := eo_len _ (b.drop (readS b).1.toNat) (Nat.le_refl _)
  simp only [List.length_drop] at this ⊢
  omega
theorem Read_eq (fu : Nat) (hfu : 90000000 ≤ fu) (b : List UInt8) : F_message_Read fu b = some (readM b) := by
  unfold F_message_Read readM
  rw [read_eq fu hfu b, Option.bind_some, failed_eq, Option.bind_some, bif_ne]
  split
  · rfl
  · rename_i h0
    have h0 : (readS b).2.1.1 = 0 := by omega
    obtain ⟨h1, h2, h3, h4⟩ := readS_ok h0
    rw [bif_dt (by omega), lines_eq fu _ (by rw [List.length_drop]; omega) (by rw [List.length_drop]; omega), Option.bind_some, valid_eq fu hfu _ (readS_sm h0), Option.bind_some, failed_eq, Option.bind_some, bif_ne]
    split <;> rfl
theorem Of_eq (fu : Nat) (hfu : 90000000 ≤ fu) (b : List UInt8) : F_R2_MessageOf fu b = some (readM b) := by
  unfold F_R2_MessageOf readM
  rw [rread_eq fu hfu b, Option.bind_some, bif_ne]
  split
  · rfl
  · rename_i h0
    have h0 : (readS b).2.1.1 = 0 := by omega
    obtain ⟨h1, h2, h3, h4⟩ := readS_ok h0
    rw [bif_dt (by omega), ends_eq fu _ (by rw [List.length_drop]; omega) (by rw [List.length_drop]; omega), Option.bind_some, fault_eq fu hfu _ (readS_sm h0), Option.bind_some, bif_ne]
    split
    · rfl
    · rename_i h5
      rw [(msgS_zero (m := ((readS b).2.2, eo (b.drop (readS b).1.toNat))) (by omega)).1]
theorem same_go (fu n : Nat) : ∀ (pre suf : List Fld), suf.length < n → pre.length + suf.length < 100000000 → F_R1_SameFields_p0 fu n (pre ++ suf) (pre ++ suf) (pre.length : Int) = some true := by
  induction n with
  | zero => intro pre suf h; exact absurd h (by omega)
  | succ n ih =>
    intro pre suf h hb
    rw [F_R1_SameFields_p0, F_R1_SameFields_b0]
    cases suf with
    | nil => rw [bif_df (by simp)]
    | cons x suf =>
      simp only [List.length_cons] at h hb
      rw [len_app, List.length_cons, bif_dt (by omega), idx_mid, Option.bind_some, Option.bind_some, show ((x.1 == x.1) && ((x.2 == x.2) && true)) = true by simp, bif_nT, nx_nat _ (by omega)]
      have := ih (pre ++ [x]) suf (by omega) (by simp; omega)
      simpa using this
theorem same_eq (fu : Nat) (m : List Fld × List UInt8) (h : m.1.length < fu) (hb : m.1.length < 100000000) : F_R2_SameMessage fu m m = some true := by
  unfold F_R2_SameMessage F_R1_SameFields F_R1_Bytes
  rw [bif_ne, if_neg (by simp)]
  have := same_go fu fu [] m.1 h (by simpa using hb)
  have this : F_R1_SameFields_p0 fu fu m.1 m.1 0 = some true := this
  rw [this, Option.bind_some, bif_t (by rfl), Option.bind_some]; simp
theorem readM_len (b : List UInt8) : (readM b).1.1.length ≤ 60 := by
  unfold readM
  split
  · simp
  · split
    · simp
    · rename_i h
      exact (msgS_zero (m := ((readS b).2.2, eo (b.drop (readS b).1.toNat))) (by omega)).2.1
theorem readM_fail {b : List UInt8} (h : (readM b).2.1 ≠ 0) : (readM b).1 = ([], []) := by
  unfold readM at h ⊢
  split
  · rfl
  · rename_i h0
    rw [if_neg h0] at h
    split
    · rfl
    · rename_i h1
      rw [if_neg h1] at h; exact absurd rfl h
theorem readM_ok {b : List UInt8} (h : (readM b).2.1 = 0) : (readM b).2 = (0, 0) ∧ (msgS (readM b).1).1 = 0 ∧ SmM (readM b).1 := by
  unfold readM at h ⊢
  split at h
  · rename_i h0; exact absurd h h0
  · rename_i h0
    rw [if_neg h0]
    split at h
    · rename_i h1; exact absurd h h1
    · rename_i h1
      rw [if_neg h1]
      exact ⟨rfl, by simp only; omega, readS_sm (by omega)⟩
theorem law_read (b : List UInt8) : F_W2_MessageReadMatchesSpec 100000000 b = some true := by
  unfold F_W2_MessageReadMatchesSpec
  have hl := readM_len b
  rw [ex_ok, Option.bind_some, bif_nT, Read_eq _ (by decide), Option.bind_some, Of_eq _ (by decide), Option.bind_some, bif_ne, eq2, bif_t (by rfl)]
  split
  · rename_i h
    rw [readM_fail h, same_eq _ _ (by simp) (by simp)]; rfl
  · rename_i h
    rw [bif_eq, if_pos (by omega), same_eq _ _ (by omega) (by omega)]; rfl
/-- a body without faults has its line ends already -/
theorem eo_id (n : Nat) : ∀ (s : List UInt8) (col : Nat), s.length ≤ n → bs col s = 0 → eo s = s := by
  induction n with
  | zero => intro s col h _; have := List.length_eq_zero_iff.1 (Nat.le_zero.1 h); subst this; exact eo_nil
  | succ n ih =>
    intro s col h hb
    cases s with
    | nil => exact eo_nil
    | cons c r =>
      simp only [List.length_cons] at h
      rw [bs_cons] at hb
      rw [eo_cons]
      split at hb
      · rename_i hc
        rw [if_pos hc]
        obtain ⟨rfl, r', rfl⟩ := isCl_true hc
        simp only [List.length_cons, List.tail_cons] at h hb ⊢
        rw [ih r' 0 (by omega) hb]
      · rename_i hc
        rw [if_neg hc]
        split at hb
        · exact absurd hb (by decide)
        · rename_i h1
          rw [if_neg h1]
          split at hb
          · exact absurd hb (by decide)
          · rw [ih r _ (by omega) hb]
/-- no CR, no LF, no NUL -/
def cleanL (s : List UInt8) : Prop := ∀ x ∈ s, x ≠ 13 ∧ x ≠ 10 ∧ x ≠ 0
theorem ln_line (s q : List UInt8) (h : cleanL s) : ln (s ++ 13 :: 10 :: q) = (s, s.length + 2) := by
  have e : s ++ 13 :: 10 :: q = (s ++ [13]) ++ 10 :: q := by simp
  rw [e, ln_at (s ++ [13]) q (fun x hx => by
    rcases List.mem_append.1 hx with hx | hx
    · exact (h x hx).2.1
    · rw [List.mem_singleton.1 hx]; decide)]
  unfold chop
  rw [List.getLast?_concat, if_pos rfl, List.dropLast_concat]
  simp
/-- further lines of a field -/
theorem hd_more : ∀ (ls : List (List UInt8)) (m : Nat) (q : List UInt8) (a : Nat) (out : List Fld) (x : Fld), (∀ s ∈ ls, cleanL s ∧ s ≠ [] ∧ bl (s.headD 0) = true) → ((lbytes ls) ++ q).length ≤ m →
    hd m (lbytes ls ++ q) a (out ++ [x]) = hd (m - ls.length) q (a + (lbytes ls).length) (out ++ [(x.1, x.2 ++ ls.flatten)])
  | [], m, q, a, out, x, _, _ => by simp [lbytes]
  | s :: ls, m, q, a, out, x, h, hm => by
    obtain ⟨h1, h2, h3⟩ := h s List.mem_cons_self
    have hc : lbytes (s :: ls) ++ q = s ++ 13 :: 10 :: (lbytes ls ++ q) := by simp [lbytes]
    have hcl : (lbytes (s :: ls)).length = s.length + 2 + (lbytes ls).length := by simp [lbytes]; omega
    rw [hc] at hm ⊢
    simp only [List.length_append, List.length_cons] at hm
    obtain ⟨m, rfl⟩ : ∃ j, m = j + 1 := ⟨m - 1, by omega⟩
    rw [hd, if_neg (by simp), ln_line s _ h1]
    simp only
    rw [if_neg h2, if_pos ⟨h3, by simp⟩, appL_snoc, show (s ++ 13 :: 10 :: (lbytes ls ++ q)).drop (s.length + 2) = lbytes ls ++ q by
      rw [show s ++ 13 :: 10 :: (lbytes ls ++ q) = (s ++ [13, 10]) ++ (lbytes ls ++ q) by simp, show s.length + 2 = (s ++ [13, 10]).length by simp, List.drop_left]]
    rw [hd_more ls m q (a + (s.length + 2)) out (x.1, x.2 ++ s) (fun t ht => h t (List.mem_cons_of_mem _ ht)) (by simp only [List.length_append]; omega), hcl]
    simp only [List.length_cons, List.flatten_cons, List.append_assoc]
    congr 1 <;> omega
end Go.Sym
/- What is written is read again. -/
namespace Go.Sym

theorem foldL_shape : ∀ (m : Nat) (s : List UInt8) (k : Nat), 1 ≤ k → s ≠ [] → ∃ f rest, foldL m s k = f :: rest ∧ f ≠ [] ∧ (k ≤ f.length ∨ f = s) ∧ ∀ t ∈ rest, t ≠ [] ∧ bl (t.headD 0) = true
  | 0, s, _, _, hs => ⟨s, [], rfl, hs, .inr rfl, fun t ht => by cases ht⟩
  | m + 1, s, k, hk, hs => by
    rw [foldL]
    split
    · split
      · exact ⟨s, [], rfl, hs, .inr rfl, fun t ht => by cases ht⟩
      · rename_i h0
        obtain ⟨b1, b2, b3⟩ := brk_lt s k hk h0
        generalize brk s k = b at *
        have hd : s.drop b = s[b] :: s.drop (b + 1) := List.drop_eq_getElem_cons b2
        obtain ⟨f, rest, e, f1, _, f3⟩ := foldL_shape m (s.drop b) 1 (Nat.le_refl _) (by rw [hd]; exact List.cons_ne_nil _ _)
        have hfl := foldL_flat m (s.drop b) 1
        rw [e, List.flatten_cons, hd] at hfl
        refine ⟨s.take b, f :: rest, by rw [e], ?_, .inl (by rw [List.length_take]; omega), fun t ht => ?_⟩
        · intro h
          have : (s.take b).length = 0 := by rw [h]; rfl
          rw [List.length_take] at this; omega
        · rcases List.mem_cons.1 ht with rfl | ht
          · refine ⟨f1, ?_⟩
            cases t with
            | nil => exact absurd rfl f1
            | cons c t =>
              injection hfl with h1 _
              unfold isPt at b3
              rw [getD_at _ _ b2] at b3
              simp only [Bool.and_eq_true] at b3
              show bl c = true
              rw [h1]; exact b3.1
          · exact f3 t ht
    · exact ⟨s, [], rfl, hs, .inr rfl, fun t ht => by cases ht⟩
set_option maxRecDepth 100000 in
theorem nameB_all : ∀ n : _root_.Fin 256, nameB (UInt8.ofNat n.val) = true → (UInt8.ofNat n.val ≠ 13 ∧ UInt8.ofNat n.val ≠ 10 ∧ UInt8.ofNat n.val ≠ 0) ∧ UInt8.ofNat n.val ≠ 58 ∧ bl (UInt8.ofNat n.val) = false := by decide +kernel
theorem nameB_ok (c : UInt8) (h : nameB c = true) : (c ≠ 13 ∧ c ≠ 10 ∧ c ≠ 0) ∧ c ≠ 58 ∧ bl c = false := byte_all (fun c => nameB c = true → (c ≠ 13 ∧ c ≠ 10 ∧ c ≠ 0) ∧ c ≠ 58 ∧ bl c = false) nameB_all c h
theorem fname_ok {n : List UInt8} (h : fname n = true) : n ≠ [] ∧ ∀ c ∈ n, nameB c = true := by
  unfold fname at h
  simp only [Bool.and_eq_true] at h
  exact ⟨by have := h.1.1; intro e; subst e; simp at this, fun c hc => List.all_eq_true.1 h.2 c hc⟩
theorem fname_rtrim {n : List UInt8} (h : fname n = true) : rtrim n = n := by
  obtain ⟨h1, h2⟩ := fname_ok h
  rcases List.eq_nil_or_concat n with rfl | ⟨t, c, rfl⟩
  · rfl
  · rw [List.concat_eq_append] at *
    rw [rtrim_snoc, (nameB_ok c (h2 c (by simp))).2.2]; rfl
theorem fval_ok {v : List UInt8} (h : fval v = true) : cleanL v ∧ edge v = true := by
  unfold fval at h
  simp only [Bool.and_eq_true, Bool.not_eq_true'] at h
  refine ⟨fun c hc => ?_, h.2⟩
  have := List.any_eq_false.1 h.1 c hc
  simp at this
  exact this
theorem hd_field (x : Fld) (hx : okF x) (m : Nat) (q : List UInt8) (a : Nat) (out : List Fld) (hm : (lbytes (flines x.1 x.2) ++ q).length ≤ m) :
    ∃ m', q.length ≤ m' ∧ hd m (lbytes (flines x.1 x.2) ++ q) a out = hd m' q (a + (lbytes (flines x.1 x.2)).length) (out ++ [(x.1, 32 :: x.2)]) := by
  obtain ⟨n, v⟩ := x
  simp only at hm ⊢
  obtain ⟨h1, h2, h3⟩ := fcode_zero hx.1
  simp only at h1 h2 h3
  obtain ⟨n0, nB⟩ := fname_ok h1
  obtain ⟨v1, v2⟩ := fval_ok h3
  obtain ⟨f, rest, e, f0, f1, f2⟩ := foldL_shape (fline n v).length (fline n v) (n.length + 2) (by omega) (by simp [fline])
  have e : flines n v = f :: rest := e
  have hflat : f ++ rest.flatten = fline n v := by
    have := foldL_flat (fline n v).length (fline n v) (n.length + 2)
    rw [show foldL (fline n v).length (fline n v) (n.length + 2) = flines n v from rfl, e, List.flatten_cons] at this
    exact this
  have hcl : ∀ c ∈ fline n v, c ≠ 13 ∧ c ≠ 10 ∧ c ≠ 0 := by
    intro c hc
    unfold fline at hc
    rcases List.mem_append.1 hc with hc | hc
    · rcases List.mem_append.1 hc with hc | hc
      · exact (nameB_ok c (nB c hc)).1
      · simp at hc; rcases hc with rfl | rfl <;> decide
    · exact v1 c hc
  have hflen : n.length + 2 ≤ f.length := by
    rcases f1 with h | h
    · exact h
    · rw [h]; simp [fline]
  obtain ⟨w, hw⟩ : ∃ w, f = n ++ 58 :: 32 :: w := by
    have hp : n ++ [58, 32] <+: f := by
      have p1 : n ++ [58, 32] <+: f ++ rest.flatten := by rw [hflat]; exact ⟨v, rfl⟩
      have p2 : f <+: f ++ rest.flatten := ⟨_, rfl⟩
      exact List.prefix_of_prefix_length_le p1 p2 (by simp; omega)
    obtain ⟨w, hw⟩ := hp
    exact ⟨w, by rw [← hw]; simp⟩
  have hwv : w ++ rest.flatten = v := by
    rw [hw] at hflat
    have : n ++ 58 :: 32 :: (w ++ rest.flatten) = n ++ 58 :: 32 :: v := by simpa [fline] using hflat
    have := List.append_cancel_left this
    simpa using this
  rw [e] at hm ⊢
  have hc : lbytes (f :: rest) ++ q = f ++ 13 :: 10 :: (lbytes rest ++ q) := by simp [lbytes]
  have hcl2 : (lbytes (f :: rest)).length = f.length + 2 + (lbytes rest).length := by simp [lbytes]; omega
  rw [hc] at hm ⊢
  simp only [List.length_append, List.length_cons] at hm
  obtain ⟨m, rfl⟩ : ∃ j, m = j + 1 := ⟨m - 1, by omega⟩
  have hff : cleanL f := fun c hc => hcl c (by rw [← hflat]; exact List.mem_append_left _ hc)
  have hbl : bl (f.headD 0) = false := by
    rw [hw]
    cases n with
    | nil => exact absurd rfl n0
    | cons c n => exact (nameB_ok c (nB c List.mem_cons_self)).2.2
  have hfo : fldOf f = some (n, 32 :: w) := by
    rw [hw, fldOf_at n (32 :: w) (fun c hc => (nameB_ok c (nB c hc)).2.1), fname_rtrim h1, if_pos h1]
  rw [hd, if_neg (by simp), ln_line f _ hff]
  simp only
  rw [if_neg f0, if_neg (by rw [hbl]; simp), hfo]
  simp only
  rw [show (f ++ 13 :: 10 :: (lbytes rest ++ q)).drop (f.length + 2) = lbytes rest ++ q by
    rw [show f ++ 13 :: 10 :: (lbytes rest ++ q) = (f ++ [13, 10]) ++ (lbytes rest ++ q) by simp, show f.length + 2 = (f ++ [13, 10]).length by simp, List.drop_left]]
  rw [hd_more rest m q (a + (f.length + 2)) out (n, 32 :: w) (fun t ht => ⟨fun c hc => hcl c (by rw [← hflat]; exact List.mem_append_right _ (List.mem_flatten.2 ⟨t, ht, hc⟩)), f2 t ht⟩) (by simp only [List.length_append]; omega), hcl2]
  refine ⟨m - rest.length, ?_, ?_⟩
  · have := lbytes_len rest
    omega
  · rw [show 32 :: w ++ rest.flatten = 32 :: v by rw [← hwv]; rfl, show a + (f.length + 2) + (lbytes rest).length = a + (f.length + 2 + (lbytes rest).length) by omega]
theorem hd_fields : ∀ (l : List Fld) (m : Nat) (q : List UInt8) (a : Nat) (out : List Fld), (∀ x ∈ l, okF x) → (fbytes l ++ q).length ≤ m →
    ∃ m', q.length ≤ m' ∧ hd m (fbytes l ++ q) a out = hd m' q (a + (fbytes l).length) (out ++ l.map fun x => (x.1, 32 :: x.2))
  | [], m, q, a, out, _, hm => ⟨m, by simpa [fbytes] using hm, by simp [fbytes]⟩
  | x :: l, m, q, a, out, h, hm => by
    have hc : fbytes (x :: l) = lbytes (flines x.1 x.2) ++ fbytes l := by simp [fbytes]
    rw [hc, List.append_assoc] at hm ⊢
    obtain ⟨m1, k1, e1⟩ := hd_field x (h x List.mem_cons_self) m (fbytes l ++ q) a out hm
    obtain ⟨m2, k2, e2⟩ := hd_fields l m1 q (a + (lbytes (flines x.1 x.2)).length) (out ++ [(x.1, 32 :: x.2)]) (fun y hy => h y (List.mem_cons_of_mem _ hy)) k1
    refine ⟨m2, k2, ?_⟩
    rw [e1, e2]
    simp [Nat.add_assoc]
theorem cval_ok {v : List UInt8} (h : fval v = true) : cval (32 :: v) = v := by
  obtain ⟨h1, h2⟩ := fval_ok h
  unfold cval
  have e : v.map clean = v := by
    have : v.map clean = v.map id := List.map_congr_left fun c hc => by unfold clean; rw [if_neg (by have := h1 c hc; simp [this.1, this.2.2])]; rfl
    rw [this, List.map_id]
  rw [List.map_cons, e, show clean 32 = 32 from rfl]
  have ht : trim v = v := of_decide_eq_true ((trim_edge v).trans h2)
  unfold trim at ht ⊢
  rw [ltrim_cons, show bl 32 = true from rfl, if_pos rfl]
  exact ht
theorem vlong_no : ∀ (l : List Fld) (i : Nat), (∀ x ∈ l, okF x) → vlong i (l.map fun x => (x.1, 32 :: x.2)) = none
  | [], _, _ => rfl
  | x :: l, i, h => by
    obtain ⟨h1, h2, h3⟩ := fcode_zero (h x List.mem_cons_self).1
    rw [List.map_cons, vlong]
    simp only
    rw [cval_ok h3, if_neg (by omega)]
    exact vlong_no l (i + 1) fun y hy => h y (List.mem_cons_of_mem _ hy)
theorem cfld_no (l : List Fld) (h : ∀ x ∈ l, okF x) : (l.map fun x => ((x.1, 32 :: x.2) : Fld)).map cfld = l := by
  rw [List.map_map]
  have : l.map (cfld ∘ fun x => ((x.1, 32 :: x.2) : Fld)) = l.map id := List.map_congr_left fun x hx => by
    obtain ⟨_, _, h3⟩ := fcode_zero (h x hx).1
    show (x.1, cval (32 :: x.2)) = x
    rw [cval_ok h3]
  rw [this, List.map_id]
theorem readS_write {m : List Fld × List UInt8} (h : (msgS m).1 = 0) : readS (hbytes m.1 ++ m.2) = (((hbytes m.1).length : Int), (0, 0), m.1) := by
  obtain ⟨l, b⟩ := m
  obtain ⟨_, k1, k2, k3, _⟩ := msgS_zero h
  simp only at k1 k2 k3 ⊢
  unfold readS
  rw [if_neg (by rw [List.length_append]; omega)]
  have e : hbytes l ++ b = fbytes l ++ (13 :: 10 :: b) := by simp [hbytes]
  obtain ⟨m', q1, q2⟩ := hd_fields l (hbytes l ++ b).length (13 :: 10 :: b) 0 [] k2 (by rw [e]; exact Nat.le_refl _)
  rw [e] at q2 ⊢
  rw [q2]
  simp only [List.length_cons] at q1
  obtain ⟨m', rfl⟩ : ∃ j, m' = j + 1 := ⟨m' - 1, by omega⟩
  have hl := ln_line [] b (fun x hx => by cases hx)
  simp only [List.nil_append, List.length_nil, Nat.zero_add] at hl
  rw [hd, if_neg (by simp), hl]
  simp only
  rw [if_pos trivial]
  simp only [List.nil_append, Nat.zero_add]
  unfold finS finW
  rw [if_neg (by rw [List.length_map]; omega), List.length_nil, vlong_no l 0 k2]
  simp only [List.nil_append]
  rw [cfld_no l k2]
  simp [hbytes]
theorem readM_write {m : List Fld × List UInt8} (h : (msgS m).1 = 0) : readM (hbytes m.1 ++ m.2) = (m, (0, 0)) := by
  unfold readM
  rw [readS_write h]
  simp only
  rw [if_neg (by simp), show ((hbytes m.1).length : Int).toNat = (hbytes m.1).length by omega, List.drop_left, eo_id _ m.2 0 (Nat.le_refl _) (msgS_zero h).2.2.2.2, if_neg (by simpa using h)]
theorem law_roundtrip (m : List Fld × List UInt8) (hs : SmM m) : F_W2_MessageRoundTrip 100000000 m = some true := by
  unfold F_W2_MessageRoundTrip
  rw [ex_ok, Option.bind_some, bif_nT, Write_eq _ (by decide) m hs, Option.bind_some, bif_ne]
  unfold writeS
  by_cases h0 : (msgS m).1 ≠ 0
  · rw [if_pos h0, if_pos h0]; rfl
  · rw [if_neg h0, if_neg (by simp)]
    simp only
    rw [Read_eq _ (by decide), Option.bind_some, readM_write (by omega)]
    have := hs.1.1
    rw [bif_t (by rfl), same_eq _ m (by omega) (by omega)]; rfl
theorem law_once (b : List UInt8) : F_W2_MessageReadsOnce 100000000 b = some true := by
  unfold F_W2_MessageReadsOnce
  rw [ex_ok, Option.bind_some, bif_nT, Read_eq _ (by decide), Option.bind_some, bif_ne]
  split
  · rename_i h
    rw [readM_fail h, same_eq _ _ (by simp) (by simp)]; rfl
  · rename_i h
    obtain ⟨_, h1, h2⟩ := readM_ok (b := b) (by omega)
    have hl := readM_len b
    rw [Write_eq _ (by decide) _ h2, Option.bind_some]
    unfold writeS
    rw [if_neg (by simpa using h1)]
    simp only
    rw [Read_eq _ (by decide), Option.bind_some, readM_write h1, bif_t (by rfl), bif_t (by rfl), same_eq _ (readM b).1 (by omega) (by omega)]; rfl
end Go.Sym
/- Identifiers and traces of messages. -/
namespace Go.Sym

theorem lo_add (c : UInt8) : (c + 97) - 65 = c + 32 := by
  rw [UInt8.sub_eq_add_neg, UInt8.add_assoc]; rfl
theorem lower_go (fu : Nat) : ∀ (n : Nat) (pre suf : List UInt8), suf.length < n → pre.length + suf.length ≤ 9223372036854775807 →
    F_basic_Lower_p0 fu n ((pre.length + suf.length : Nat) : Int) (pre.length : Int) (pre ++ suf) = some (pre ++ suf.map lo)
  | 0, _, _, h, _ => absurd h (by omega)
  | n + 1, pre, [], _, _ => by simp [F_basic_Lower_p0, F_basic_Lower_b0]
  | n + 1, pre, c :: suf, h, hb => by
    simp only [List.length_cons] at h hb
    have ih := fun d => lower_go fu n (pre ++ [d]) suf (by omega) (by simp; omega)
    simp only [List.length_append, List.length_cons, List.length_nil, List.append_assoc, List.singleton_append, Nat.zero_add] at ih
    have e : ((pre.length + (c :: suf).length : Nat) : Int) = ((pre.length + 1 + suf.length : Nat) : Int) := by simp only [List.length_cons]; omega
    have hl : 0 ≤ (pre.length : Int) ∧ (pre.length : Int).toNat < (pre ++ c :: suf).length := by simp
    rw [e]
    simp only [F_basic_Lower_p0, F_basic_Lower_b0]
    rw [bif_dt (by omega), bif_dt hl, get_mid, Option.bind_some, set_mid, nx_nat _ (by omega), bif_d, bif_d, ih, ih, bif_dt hl, Option.bind_some]
    unfold lo
    simp only [List.map_cons, lo_add]
    by_cases h1 : (65 : UInt8) ≤ c
    · by_cases h2 : c ≤ 90
      · simp [h1, h2]
      · simp [h1, h2]
    · simp [h1]
theorem lower_eq (fu : Nat) (s : List UInt8) (h : s.length < fu) (hb : s.length ≤ maxLen) : F_basic_Lower fu s = some (s.map lo) := by
  unfold F_basic_Lower
  rw [bif_dt hb]
  have := lower_go fu fu [] s h (by simpa [maxLen] using hb)
  simpa using this
theorem r1_in_eq (x a b : Int) : F_R1_In x a b = some (decide (a ≤ x ∧ x ≤ b)) := by
  unfold F_R1_In; by_cases h : a ≤ x <;> simp [h]
theorem toNat_le (a b : UInt8) : ((a.toNat : Int) ≤ (b.toNat : Int)) ↔ a ≤ b := by rw [UInt8.le_iff_toNat_le]; omega
theorem r1lower_go (fu : Nat) : ∀ (n : Nat) (pre suf : List UInt8), suf.length < n → pre.length + suf.length ≤ 9223372036854775807 →
    F_R1_Lower_p0 fu n (pre.length : Int) (pre ++ suf) = some (pre ++ suf.map lo)
  | 0, _, _, h, _ => absurd h (by omega)
  | n + 1, pre, [], _, _ => by simp [F_R1_Lower_p0, F_R1_Lower_b0]
  | n + 1, pre, c :: suf, h, hb => by
    simp only [List.length_cons] at h hb
    have ih := fun d => r1lower_go fu n (pre ++ [d]) suf (by omega) (by simp; omega)
    simp only [List.length_append, List.length_cons, List.length_nil, List.append_assoc, List.singleton_append, Nat.zero_add] at ih
    have hl : 0 ≤ (pre.length : Int) ∧ (pre.length : Int).toNat < (pre ++ c :: suf).length := by simp
    simp only [F_R1_Lower_p0, F_R1_Lower_b0]
    rw [bif_dt (by simp; omega), bif_dt hl, get_mid, Option.bind_some, r1_in_eq, Option.bind_some, nx_nat _ (by omega), bif_d, bif_dt hl, Option.bind_some, bif_dt hl, Option.bind_some, set_mid, ih, ih]
    unfold lo
    simp only [List.map_cons]
    have e1 := toNat_le 65 c
    have e2 := toNat_le c 90
    have q1 : ((65 : UInt8).toNat : Int) = 65 := rfl
    have q2 : ((90 : UInt8).toNat : Int) = 90 := rfl
    rw [q1] at e1; rw [q2] at e2
    by_cases h1 : (65 : UInt8) ≤ c ∧ c ≤ 90
    · rw [if_pos ⟨e1.2 h1.1, e2.2 h1.2⟩, if_pos h1]
    · rw [if_neg (fun q => h1 ⟨e1.1 q.1, e2.1 q.2⟩), if_neg h1]
theorem r1lower_eq (fu : Nat) (s : List UInt8) (h : s.length < fu) (hb : s.length ≤ maxLen) : F_R1_Lower fu s = some (s.map lo) := by
  unfold F_R1_Lower
  rw [bif_dt hb]
  have := r1lower_go fu fu [] s h (by simpa [maxLen] using hb)
  simpa using this
theorem bsame_eq (fu : Nat) (a b : List UInt8) (ha : a.length < fu) (hb : b.length < fu) (ha' : a.length ≤ maxLen) (hb' : b.length ≤ maxLen) : F_basic_Same fu a b = some (a.map lo == b.map lo) := by
  unfold F_basic_Same
  rw [bif_eq, lower_eq fu a ha ha', lower_eq fu b hb hb']
  by_cases h : (a.length : Int) = b.length
  · rw [if_pos h]; rfl
  · rw [if_neg h]
    have : (a.map lo == b.map lo) = false := by
      rw [beq_eq_false_iff_ne]; intro q; apply h; have := congrArg List.length q; simp only [List.length_map] at this; omega
    rw [this]
theorem alike_eq (fu : Nat) (a b : List UInt8) (ha : a.length < fu) (hb : b.length < fu) (ha' : a.length ≤ maxLen) (hb' : b.length ≤ maxLen) : F_R1_Alike fu a b = some (a.map lo == b.map lo) := by
  unfold F_R1_Alike
  rw [r1lower_eq fu a ha ha', r1lower_eq fu b hb hb']; rfl
/-- the values of the fields with a name -/
def vals (l : List Fld) (n : List UInt8) : List (List UInt8) := (l.filter fun x => x.1.map lo == n.map lo).map (·.2)
theorem vals_cons (x : Fld) (l : List Fld) (n : List UInt8) : vals (x :: l) n = if (x.1.map lo == n.map lo) = true then x.2 :: vals l n else vals l n := by
  unfold vals; rw [List.filter_cons]; split <;> rfl
theorem vals_len (l : List Fld) (n : List UInt8) : (vals l n).length ≤ l.length := by
  unfold vals; rw [List.length_map]; exact List.length_filter_le _ _
theorem trace_go (fu n : Nat) (hfu : 90000000 ≤ fu) : ∀ (pre suf : List Fld) (k : Nat), suf.length < n → pre.length + suf.length < 100000000 → SmF suf → k + suf.length < 1000000000 →
    F_message_Trace_p0 fu n (k : Int) (pre ++ suf) ((pre.length + suf.length : Nat) : Int) (pre.length : Int) = some ((k + (vals suf [82, 101, 99, 101, 105, 118, 101, 100]).length : Nat) : Int) := by
  induction n with
  | zero => intro pre suf k h; exact absurd h (by omega)
  | succ n ih =>
    intro pre suf k h hb hs hk
    rw [F_message_Trace_p0, F_message_Trace_b0]
    cases suf with
    | nil => rw [bif_df (by simp)]; rfl
    | cons x suf =>
      simp only [List.length_cons] at h hb hk ⊢
      obtain ⟨q1, q2⟩ := hs.2 x List.mem_cons_self
      have next : ∀ j : Nat, j ≤ k + 1 → F_message_Trace_p0 fu n (j : Int) (pre ++ x :: suf) ((pre.length + (suf.length + 1) : Nat) : Int) (w64 ((pre.length : Int) + 1)) = some ((j + (vals suf [82, 101, 99, 101, 105, 118, 101, 100]).length : Nat) : Int) := by
        intro j hj
        have := ih (pre ++ [x]) suf j (by omega) (by simp; omega) hs.tail (by omega)
        simp only [List.append_assoc, List.singleton_append, List.length_append, List.length_cons, List.length_nil] at this
        rw [show pre.length + (0 + 1) + suf.length = pre.length + (suf.length + 1) by omega] at this
        rw [nx_nat _ (by omega)]
        exact this
      rw [bif_dt (by omega), idx_mid, Option.bind_some, bsame_eq fu _ _ (by omega) (by simp; omega) (by simp [maxLen]; omega) (by simp [maxLen]), Option.bind_some, vals_cons]
      cases hc : x.1.map lo == ([82, 101, 99, 101, 105, 118, 101, 100] : List UInt8).map lo
      · rw [bif_f (by rfl), if_neg (by decide)]
        exact next k (by omega)
      · rw [bif_t (by rfl), if_pos rfl, nx_nat k (by omega), next (k + 1) (by omega), List.length_cons]
        congr 2; omega
theorem trace_eq (fu : Nat) (hfu : 90000000 ≤ fu) (m : List Fld × List UInt8) (hs : SmF m.1) : F_message_Trace fu m = some ((vals m.1 [82, 101, 99, 101, 105, 118, 101, 100]).length : Int) := by
  have h1 := hs.1
  have := trace_go fu fu hfu [] m.1 0 (by omega) (by simp; omega) hs (by omega)
  simp only [List.nil_append, List.length_nil, Nat.zero_add] at this
  exact this
theorem valuesOf_go (fu n : Nat) (hfu : 90000000 ≤ fu) (nm : List UInt8) (hn : nm.length ≤ 1000) : ∀ (pre suf : List Fld) (out : List (List UInt8)), suf.length < n → pre.length + suf.length < 100000000 → SmF suf → out.length + suf.length < 1000000000 →
    F_R1_ValuesOf_p0 fu n (pre ++ suf) nm (pre.length : Int) out = some (out ++ vals suf nm) := by
  induction n with
  | zero => intro pre suf out h; exact absurd h (by omega)
  | succ n ih =>
    intro pre suf out h hb hs hk
    rw [F_R1_ValuesOf_p0, F_R1_ValuesOf_b0]
    cases suf with
    | nil => rw [bif_df (by simp)]; simp [vals]
    | cons x suf =>
      simp only [List.length_cons] at h hb hk
      obtain ⟨q1, q2⟩ := hs.2 x List.mem_cons_self
      have next : ∀ out' : List (List UInt8), out'.length ≤ out.length + 1 → F_R1_ValuesOf_p0 fu n (pre ++ x :: suf) nm (w64 ((pre.length : Int) + 1)) out' = some (out' ++ vals suf nm) := by
        intro out' hj
        have := ih (pre ++ [x]) suf out' (by omega) (by simp; omega) hs.tail (by omega)
        rw [nx_nat _ (by omega)]
        simpa using this
      rw [len_app, List.length_cons, bif_dt (by omega), idx_mid, Option.bind_some, alike_eq fu _ _ (by omega) (by omega) (by simp only [maxLen]; omega) (by simp only [maxLen]; omega), Option.bind_some, vals_cons]
      cases hc : x.1.map lo == nm.map lo
      · rw [bif_f (by rfl), if_neg (by decide)]
        exact next out (by omega)
      · rw [bif_t (by rfl), if_pos rfl, Option.bind_some, bif_dt (by simp [rowMax]; omega), next _ (by simp)]
        simp
theorem valuesOf_eq (fu : Nat) (hfu : 90000000 ≤ fu) (l : List Fld) (nm : List UInt8) (hn : nm.length ≤ 1000) (hs : SmF l) : F_R1_ValuesOf fu l nm = some (vals l nm) := by
  have h1 := hs.1
  have := valuesOf_go fu fu hfu nm hn [] l [] (by omega) (by simp; omega) hs (by simp; omega)
  exact this
theorem get_go (fu n : Nat) (hfu : 90000000 ≤ fu) (nm : List UInt8) (hn : nm.length ≤ 1000) (m16 : Int × Int) : ∀ (pre suf : List Fld) (out : List (List UInt8)), suf.length < n → pre.length + suf.length < 100000000 → SmF suf → out.length + suf.length < 1000000000 →
    F_header_Get_p0 fu n nm (pre ++ suf) ((pre.length + suf.length : Nat) : Int) (pre.length : Int) m16 out = some ((0, 0), out ++ vals suf nm) := by
  induction n with
  | zero => intro pre suf out h; exact absurd h (by omega)
  | succ n ih =>
    intro pre suf out h hb hs hk
    rw [F_header_Get_p0, F_header_Get_b0]
    cases suf with
    | nil => rw [bif_df (by simp)]; simp [vals, F_basic_None]
    | cons x suf =>
      simp only [List.length_cons] at h hb hk ⊢
      obtain ⟨q1, q2⟩ := hs.2 x List.mem_cons_self
      have next : ∀ out' : List (List UInt8), out'.length ≤ out.length + 1 → F_header_Get_p0 fu n nm (pre ++ x :: suf) ((pre.length + (suf.length + 1) : Nat) : Int) (w64 ((pre.length : Int) + 1)) m16 out' = some ((0, 0), out' ++ vals suf nm) := by
        intro out' hj
        have := ih (pre ++ [x]) suf out' (by omega) (by simp; omega) hs.tail (by omega)
        simp only [List.append_assoc, List.singleton_append, List.length_append, List.length_cons, List.length_nil] at this
        rw [show pre.length + (0 + 1) + suf.length = pre.length + (suf.length + 1) by omega] at this
        rw [nx_nat _ (by omega)]
        exact this
      rw [bif_dt (by omega), idx_mid, Option.bind_some, bsame_eq fu _ _ (by omega) (by omega) (by simp only [maxLen]; omega) (by simp only [maxLen]; omega), Option.bind_some, vals_cons]
      cases hc : x.1.map lo == nm.map lo
      · rw [bif_f (by rfl), if_neg (by decide)]
        exact next out (by omega)
      · rw [bif_t (by rfl), if_pos rfl, bif_dt (by simp [rowMax]; omega), next _ (by simp)]
        simp
theorem get_eq (fu : Nat) (hfu : 90000000 ≤ fu) (l : List Fld) (nm : List UInt8) (hn : fname nm = true) (hs : SmF l) (h0 : (fieldsS l).1 = 0) : F_header_Get fu l nm = some ((0, 0), vals l nm) := by
  have h1 := hs.1
  have hl := fname_len hn
  unfold F_header_Get F_header_valid
  rw [hval_eq fu hfu l hs, Option.bind_some, failed_eq, Option.bind_some, bif_ne, if_neg (by omega), hname_eq fu (by omega), Option.bind_some, hn, bif_nT]
  have := get_go fu fu hfu nm (by omega) (0, 0) [] l [] (by omega) (by simp; omega) hs (by simp; omega)
  simp only [List.nil_append, List.length_nil, Nat.zero_add] at this
  exact this
/-- the identifier that a value bears -/
def idS : List UInt8 → List UInt8 × Bool
  | [] => ([], false)
  | c :: t => if c = 60 ∧ t.getLast? = some 62 ∧ t.dropLast ≠ [] ∧ t.dropLast.any ([60, 62, 32, 9] : List UInt8).contains = false then (t.dropLast, true) else ([], false)
def idM (m : List Fld × List UInt8) : List UInt8 × Bool := match vals m.1 [109, 101, 115, 115, 97, 103, 101, 45, 105, 100] with
  | [] => ([], false)
  | y :: _ => idS y
theorem cutPre_eq (y : List UInt8) : F_strings_CutPrefix y [60] = some (match y with | [] => ([], false) | c :: t => if c = 60 then (t, true) else (c :: t, false)) := by
  unfold F_strings_CutPrefix F_internal_stringslite_CutPrefix F_internal_stringslite_HasPrefix
  rw [show (([60] : List UInt8).length : Int) = 1 from rfl]
  cases y with
  | nil => rfl
  | cons c t =>
    show _ = some (if c = 60 then (t, true) else (c :: t, false))
    rw [bif_dt (by simp only [List.length_cons]; omega), bif_dt (by simp only [List.length_cons]; omega), Option.bind_some, show List.take (1 : Int).toNat (c :: t) = [c] from rfl]
    by_cases hc : c = 60
    · subst hc; rw [if_pos rfl, show ([(60 : UInt8)] == [60]) = true from rfl, bif_nT, bif_dt (by simp only [List.length_cons]; omega)]; rfl
    · rw [if_neg hc, show ([c] == [(60 : UInt8)]) = false by simpa using hc]; rfl
theorem cutSuf_eq (t : List UInt8) (hb : t.length < 1000000000) : F_strings_CutSuffix t [62] = some (if t.getLast? = some 62 then (t.dropLast, true) else (t, false)) := by
  unfold F_strings_CutSuffix F_internal_stringslite_CutSuffix F_internal_stringslite_HasSuffix
  rw [show (([62] : List UInt8).length : Int) = 1 from rfl]
  rcases List.eq_nil_or_concat t with rfl | ⟨u, c, rfl⟩
  · rfl
  · rw [List.concat_eq_append] at *
    simp only [List.length_append, List.length_cons, List.length_nil] at hb
    rw [len_last, w_last _ (by omega), bif_dt (by omega), bif_dt (by omega), Option.bind_some, List.getLast?_concat, List.dropLast_concat]
    have e : List.drop ((u.length : Nat) : Int).toNat (u ++ [c]) = [c] := drop_mid u [c]
    rw [e, take_last]
    by_cases hc : c = 62
    · subst hc; rw [if_pos rfl, show ([(62 : UInt8)] == [62]) = true from rfl, bif_nT, bif_dt (by omega)]; rfl
    · rw [if_neg (by simpa using hc), show ([c] == [(62 : UInt8)]) = false by simpa using hc]; rfl
theorem id_eq (fu : Nat) (hfu : 90000000 ≤ fu) (m : List Fld × List UInt8) (hs : SmM m) : F_message_Id fu m = some (if (msgS m).1 ≠ 0 then ([], (false, msgS m)) else ((idM m).1, ((idM m).2, (0, 0)))) := by
  unfold F_message_Id
  rw [valid_eq fu hfu m hs, Option.bind_some, failed_eq, Option.bind_some, bif_ne]
  split
  · rfl
  · rename_i h0
    have hz : (fieldsS m.1).1 = 0 := by
      unfold msgS at h0
      split at h0
      · rename_i h1; exact absurd h1 h0
      · rename_i h1; omega
    rw [get_eq fu hfu m.1 _ (by decide) hs.1 hz, Option.bind_some]
    unfold idM
    rw [show vals m.1 [77, 101, 115, 115, 97, 103, 101, 45, 73, 100] = vals m.1 [109, 101, 115, 115, 97, 103, 101, 45, 105, 100] from rfl]
    have hsm : ∀ y ∈ vals m.1 [109, 101, 115, 115, 97, 103, 101, 45, 105, 100], y.length ≤ 10000000 := by
      intro y hy
      unfold vals at hy
      obtain ⟨x, hx, rfl⟩ := List.mem_map.1 hy
      exact (hs.1.2 x (List.mem_filter.1 hx).1).2
    cases hv : vals m.1 [109, 101, 115, 115, 97, 103, 101, 45, 105, 100] with
    | nil => rfl
    | cons y ys =>
      have hy := hsm y (by rw [hv]; exact List.mem_cons_self)
      simp only
      rw [bif_eq, if_neg (by simp only [List.length_cons]; omega), bif_dt (by simp), show (y :: ys)[(0 : Int).toNat]? = some y from rfl, Option.bind_some, cutPre_eq, Option.bind_some]
      cases y with
      | nil => rfl
      | cons c t =>
        simp only [List.length_cons] at hy
        simp only [idS]
        by_cases hc : c = 60
        · rw [if_pos hc, cutSuf_eq t (by omega), Option.bind_some, bif_nT]
          by_cases hl : t.getLast? = some 62
          · rw [if_pos hl, bif_nT]
            by_cases he : t.dropLast = []
            · rw [bif_t (by simp [he]), if_neg (by simp [he])]; rfl
            · rw [bif_f (by simpa using he), containsAny_eq ac2 fu _ (by omega) (by simp; omega) (by simp; omega), Option.bind_some]
              cases hA : t.dropLast.any ([60, 62, 32, 9] : List UInt8).contains
              · rw [bif_f (by rfl), if_pos ⟨hc, hl, he, rfl⟩]; rfl
              · rw [bif_t (by rfl), if_neg (by simp)]; rfl
          · rw [if_neg hl, bif_nF, if_neg (by simp [hl])]; rfl
        · rw [if_neg hc, cutSuf_eq _ (by simp only [List.length_cons]; omega), Option.bind_some, bif_nF, if_neg (by simp [hc])]; rfl
theorem oneOf4 (fu : Nat) (hfu : 10 ≤ fu) (c a b d e : UInt8) : F_R1_OneOf fu c [a, b, d, e] = some (([a, b, d, e] : List UInt8).contains c) := by
  obtain ⟨n, rfl⟩ : ∃ n, fu = n + 10 := ⟨fu - 10, by omega⟩
  unfold F_R1_OneOf
  simp only [F_R1_OneOf_p0, F_R1_OneOf_b0]
  rw [bif_t (by rfl), show idx [a, b, d, e] (0 : Int) = some a from rfl, Option.bind_some]
  simp only [List.contains_cons, List.contains_nil, Bool.or_false]
  rw [beq8_comm a c, show (w64 (0 + 1)) = (1 : Int) from rfl]
  cases c == a
  · rw [bif_f (by rfl), bif_t (by rfl), show idx [a, b, d, e] (1 : Int) = some b from rfl, Option.bind_some, beq8_comm b c, show (w64 (1 + 1)) = (2 : Int) from rfl]
    cases c == b
    · rw [bif_f (by rfl), bif_t (by rfl), show idx [a, b, d, e] (2 : Int) = some d from rfl, Option.bind_some, beq8_comm d c, show (w64 (2 + 1)) = (3 : Int) from rfl]
      cases c == d
      · rw [bif_f (by rfl), bif_t (by rfl), show idx [a, b, d, e] (3 : Int) = some e from rfl, Option.bind_some, beq8_comm e c]
        cases c == e <;> rfl
      · rfl
    · rfl
  · rfl
theorem rid_go (fu n : Nat) (hfu : 10 ≤ fu) : ∀ (pre suf : List UInt8), suf.length < n → pre.length + suf.length < 100000000 →
    F_R2_IdOf_p2 fu n (pre ++ suf) (pre.length : Int) = some (if suf.any ([60, 62, 32, 9] : List UInt8).contains = true then ([], false) else (pre ++ suf, true)) := by
  induction n with
  | zero => intro pre suf h; exact absurd h (by omega)
  | succ n ih =>
    intro pre suf h hb
    rw [F_R2_IdOf_p2, F_R2_IdOf_b2]
    cases suf with
    | nil => rw [bif_df (by simp)]; rfl
    | cons c suf =>
      simp only [List.length_cons] at h hb
      rw [len_mid, bif_dt (by omega), idx_mid, Option.bind_some, oneOf4 fu hfu, Option.bind_some, List.any_cons]
      cases hc : ([60, 62, 32, 9] : List UInt8).contains c
      · have := ih (pre ++ [c]) suf (by omega) (by simp; omega)
        rw [bif_f (by rfl), nx_nat _ (by omega), Bool.false_or]
        simpa using this
      · rfl
theorem idOf_eq (fu : Nat) (hfu : 90000000 ≤ fu) (m : List Fld × List UInt8) (hs : SmF m.1) : F_R2_IdOf fu m = some (idM m) := by
  unfold F_R2_IdOf
  rw [valuesOf_eq fu hfu m.1 _ (by decide) hs, Option.bind_some]
  unfold idM
  have hsm : ∀ y ∈ vals m.1 [109, 101, 115, 115, 97, 103, 101, 45, 105, 100], y.length ≤ 10000000 := by
    intro y hy
    unfold vals at hy
    obtain ⟨x, hx, rfl⟩ := List.mem_map.1 hy
    exact (hs.2 x (List.mem_filter.1 hx).1).2
  cases hv : vals m.1 [109, 101, 115, 115, 97, 103, 101, 45, 105, 100] with
  | nil => rfl
  | cons y ys =>
    have hy := hsm y (by rw [hv]; exact List.mem_cons_self)
    have hg : (0 ≤ (0 : Int) ∧ (0 : Int).toNat < (y :: ys).length) := by simp
    have hq : (y :: ys)[(0 : Int).toNat]? = some y := rfl
    simp only
    rw [bif_eq, if_neg (by simp only [List.length_cons]; omega), bif_dt hg, hq, Option.bind_some, bif_d]
    unfold F_R2_IdOf_p0
    by_cases h3 : y.length < 3
    · rw [if_pos (by omega), bif_t (by rfl)]
      cases y with
      | nil => rfl
      | cons c t =>
        simp only [List.length_cons] at h3
        simp only [idS]
        rw [if_neg]
        rintro ⟨_, _, he, _⟩
        rcases List.eq_nil_or_concat t with rfl | ⟨u, d, rfl⟩
        · simp at he
        · rw [List.concat_eq_append] at *
          rw [List.dropLast_concat] at he
          cases u with
          | nil => exact he rfl
          | cons _ _ => simp at h3 <;> omega
    · rw [if_neg (by omega), bif_dt hg, Option.bind_some]
      cases y with
      | nil => simp at h3
      | cons c t =>
        rcases List.eq_nil_or_concat t with rfl | ⟨u, d, rfl⟩
        · simp at h3
        · rw [List.concat_eq_append] at *
          simp only [List.length_cons, List.length_append, List.length_nil] at h3 hy
          simp only [idS]
          rw [show idx (c :: (u ++ [d])) (0 : Int) = some c from rfl, Option.bind_some, bif_ne8, List.getLast?_concat, List.dropLast_concat]
          by_cases hc : c = 60
          · have hl : ((c :: (u ++ [d])).length : Int) = (((c :: u).length + 1 : Nat) : Int) := by simp
            rw [if_neg (by simpa using hc), bif_dt hg, Option.bind_some, bif_dt hg, Option.bind_some, hl, w_last _ (by simp only [List.length_cons]; omega), show c :: (u ++ [d]) = (c :: u) ++ [d] from rfl, idx_last, Option.bind_some]
            by_cases hd : d = 62
            · rw [bif_f (by simpa using hd)]
              unfold F_R2_IdOf_p1
              have hg2 : (0 ≤ (0 : Int) ∧ (0 : Int).toNat < (((c :: u) ++ [d]) :: ys).length) := by simp
              rw [bif_dt hg2, show (((c :: u) ++ [d]) :: ys)[(0 : Int).toNat]? = some ((c :: u) ++ [d]) from rfl, Option.bind_some, bif_dt hg2, Option.bind_some]
              rw [len_last, w_last _ (by simp only [List.length_cons]; omega), bif_dt (by simp only [List.length_cons]; omega)]
              rw [show List.take (((c :: u).length : Int).toNat - (1 : Int).toNat) (List.drop (1 : Int).toNat ((c :: u) ++ [d])) = u by
                rw [show (1 : Int).toNat = 1 from rfl, show ((c :: u).length : Int).toNat - 1 = u.length by simp, show List.drop 1 ((c :: u) ++ [d]) = u ++ [d] from rfl]; simp]
              have := rid_go fu fu (by omega) [] u (by omega) (by simp; omega)
              have this : F_R2_IdOf_p2 fu fu u 0 = _ := this
              rw [this]
              have hu : u ≠ [] := by
                intro e; subst e; simp at h3
              cases hA : u.any ([60, 62, 32, 9] : List UInt8).contains
              · rw [if_neg (by decide), if_pos ⟨hc, by rw [hd], hu, rfl⟩]; rfl
              · rw [if_pos rfl, if_neg (by simp)]
            · rw [bif_t (by simpa using hd), if_neg (by simp [hd])]
          · rw [if_pos hc, bif_t (by rfl), if_neg (by simp [hc])]
theorem law_id (m : List Fld × List UInt8) (hs : SmM m) : F_W2_MessageIdMatchesSpec 100000000 m = some true := by
  unfold F_W2_MessageIdMatchesSpec
  rw [ex_ok, Option.bind_some, bif_nT, trace_eq _ (by decide) m hs.1, Option.bind_some, valuesOf_eq _ (by decide) m.1 _ (by decide) hs.1, Option.bind_some]
  rw [show vals m.1 [114, 101, 99, 101, 105, 118, 101, 100] = vals m.1 [82, 101, 99, 101, 105, 118, 101, 100] from rfl]
  unfold F_W2_MessageIdMatchesSpec_p0 F_W2_MessageIdMatchesSpec_p1
  rw [bif_f (by simp), id_eq _ (by decide) m hs, Option.bind_some, fault_eq _ (by decide) m hs, Option.bind_some, bif_ne]
  by_cases h0 : (msgS m).1 ≠ 0
  · rw [if_pos h0, if_pos h0, eq2, bif_t (by rfl), bif_t (by rfl)]; rfl
  · rw [if_neg h0, if_neg h0, idOf_eq _ (by decide) m hs.1, Option.bind_some, bif_t (by rfl), bif_t (by simp)]; simp
end Go.Sym
/- From the arguments that a statement speaks of to plain data: what reads as data of a type has a plain reading. -/
namespace Go.Sym
open Go.ChangeShapes Go.WideShapes Go.ChangeAt Go.RowKit
variable [LC]

/-- all that the world's cells hold -/
def Gw (w : World) : Gh := ⟨fun b o => match w.cell? ⟨b, o, none⟩ with | some v => if v.oneCell' = true then some v else none | none => none, fun _ => none, fun _ => none⟩
omit [LC] in
theorem Gw_imm {w : World} {b o : Nat} {v : Value} (h : w.cell? ⟨b, o, none⟩ = some v) (h1 : v.oneCell' = true) : (Gw w).imm b o = some v := by
  simp only [Gw]; rw [h]; simp [h1]
theorem Gw_mem (w : World) : Mem (Gw w) [] w := by
  have key : ∀ b o v, (Gw w).imm b o = some v → w.cell? ⟨b, o, none⟩ = some v ∧ v.oneCell' = true := by
    intro b o v h
    simp only [Gw] at h
    split at h
    · rename_i u hu
      split at h
      · rename_i h1; cases h; exact ⟨hu, h1⟩
      · cases h
    · cases h
  exact ⟨fun b o v h => (key b o v h).1, fun b o v h => (key b o v h).2, fun n bx h => (by cases h), fun n m bx bx' b h => (by cases h)⟩
inductive TreeBd {α : Type} (p : α → Prop) : Tree α → Prop
  | mk (a : α) (l : List (Tree α)) : p a → l.length ≤ maxLen → (∀ x ∈ l, TreeBd p x) → TreeBd p (.node a l)
/-- what the values of a type are bound to -/
def Ty.bd : (τ : Ty) → τ.den → Prop
  | .int k, n => (Lit.int k n).wf = true
  | .str, s => List.length s ≤ maxLen
  | .prod a b, x => a.bd x.1 ∧ b.bd x.2
  | .list a, l => List.length l ≤ maxLen ∧ ∀ x ∈ (show List a.den from l), a.bd x
  | .tree a, t => TreeBd a.bd t
  | _, _ => True
def fldsOk (P : Program) (rec : Ty → TypeId → Bool) : Ty → List Field → Nat → Bool
  | τ, [f], o => f.offset == o && (P.cellsOf f.type == τ.sz && rec τ f.type)
  | .prod a b, f :: fs, o => f.offset == o && (P.cellsOf f.type == a.sz && (rec a f.type && fldsOk P rec b fs (o + a.sz)))
  | _, _, _ => false
/-- a type of the program is the type of this code -/
def tyOk (P : Program) : Nat → Ty → TypeId → Bool
  | 0, _, _ => false
  | _ + 1, .int k, t => match P.underlying t with | some (.int k') => decide (k' = k) | _ => false
  | _ + 1, .byte, t => match P.underlying t with | some (.int k') => decide (k' = .u8) | _ => false
  | _ + 1, .bool, t => match P.underlying t with | some .bool => true | _ => false
  | _ + 1, .str, t => match P.underlying t with | some .string => true | _ => false
  | n + 1, .list a, t => match P.underlying t with
    | some (.slice e) => P.cellsOf e == a.sz && (decide (0 < a.sz) && tyOk P n a e)
    | _ => false
  | n + 1, .prod a b, t => match P.underlying t with
    | some (.struct fs) => P.cellsOf t == (Ty.prod a b).sz && fldsOk P (tyOk P n) (.prod a b) fs.toList 0
    | _ => false
  | _ + 1, _, _ => false
omit [LC] in
theorem tyOk_int {P : Program} {n : Nat} {k : IntKind} {t : TypeId} (h : tyOk P (n + 1) (.int k) t = true) : P.underlying t = some (.int k) := by
  unfold tyOk at h
  split at h
  · rename_i k' e; rw [e, of_decide_eq_true h]
  · cases h
omit [LC] in
theorem tyOk_byte {P : Program} {n : Nat} {t : TypeId} (h : tyOk P (n + 1) .byte t = true) : P.underlying t = some (.int .u8) := by
  unfold tyOk at h
  split at h
  · rename_i k' e; rw [e, of_decide_eq_true h]
  · cases h
omit [LC] in
theorem tyOk_bool {P : Program} {n : Nat} {t : TypeId} (h : tyOk P (n + 1) .bool t = true) : P.underlying t = some .bool := by
  unfold tyOk at h
  split at h
  · rename_i e; exact e
  · cases h
omit [LC] in
theorem tyOk_str {P : Program} {n : Nat} {t : TypeId} (h : tyOk P (n + 1) .str t = true) : P.underlying t = some .string := by
  unfold tyOk at h
  split at h
  · rename_i e; exact e
  · cases h
omit [LC] in
theorem Reps.app {G : Gh} : ∀ {xs ys : List AV} {us vs : List Value}, Reps xs G us → Reps ys G vs → Reps (xs ++ ys) G (us ++ vs)
  | [], _, [], _, _, h => h
  | [], _, _ :: _, _, h, _ => by simp [Reps] at h
  | _ :: _, _, [], _, h, _ => by simp [Reps] at h
  | _ :: _, _, _ :: _, _, h, k => ⟨h.1, Reps.app h.2 k⟩
omit [LC] in
/-- the pieces are of one cell -/
theorem enc_one {G : Gh} : ∀ (τ : Ty) (x : τ.den) (cs : List Value), Reps (τ.enc x) G cs → ∀ v ∈ cs, v.oneCell' = true
  | .int k, n, [v], h, u, hu => by
    rw [List.mem_singleton] at hu; subst hu
    have h1 : u = .int k n := h.1
    rw [h1]; rfl
  | .byte, c, [v], h, u, hu => by
    rw [List.mem_singleton] at hu; subst hu
    have h1 : u = .int .u8 (UInt8.toNat c) := h.1
    rw [h1]; rfl
  | .bool, c, [v], h, u, hu => by
    rw [List.mem_singleton] at hu; subst hu
    have h1 : u = .bool c := h.1
    rw [h1]; rfl
  | .str, s, [v], h, u, hu => by
    rw [List.mem_singleton] at hu; subst hu
    have h1 : u = .string ⟨List.toArray s⟩ := h.1
    rw [h1]; rfl
  | .list a, l, [v], h, u, hu => by
    rw [List.mem_singleton] at hu; subst hu
    obtain ⟨ad, c, rfl, _⟩ : SlAt a.sz (a.At G.imm) l u := h.1
    rfl
  | .unit, _, [], _, u, hu => by cases hu
  | .unit, _, _ :: _, h, _, _ => by simp [Ty.enc, Reps] at h
  | .prod a b, x, cs, h, u, hu => by
    have key : ∀ (xs ys : List AV) (cs : List Value), Reps (xs ++ ys) G cs → ∃ us vs, cs = us ++ vs ∧ Reps xs G us ∧ Reps ys G vs := by
      intro xs
      induction xs with
      | nil => intro ys cs h; exact ⟨[], cs, rfl, trivial, h⟩
      | cons x xs ih =>
        intro ys cs h
        cases cs with
        | nil => simp [Reps] at h
        | cons c cs =>
          obtain ⟨us, vs, e, h1, h2⟩ := ih ys cs h.2
          exact ⟨c :: us, vs, by rw [e]; rfl, ⟨h.1, h1⟩, h2⟩
    obtain ⟨us, vs, rfl, h1, h2⟩ := key _ _ _ h
    rcases List.mem_append.1 hu with q | q
    · exact enc_one a x.1 us h1 u q
    · exact enc_one b x.2 vs h2 u q
  | .tree a, x, cs, h, u, hu => by
    have key : ∀ (xs ys : List AV) (cs : List Value), Reps (xs ++ ys) G cs → ∃ us vs, cs = us ++ vs ∧ Reps xs G us ∧ Reps ys G vs := by
      intro xs
      induction xs with
      | nil => intro ys cs h; exact ⟨[], cs, rfl, trivial, h⟩
      | cons x xs ih =>
        intro ys cs h
        cases cs with
        | nil => simp [Reps] at h
        | cons c cs =>
          obtain ⟨us, vs, e, h1, h2⟩ := ih ys cs h.2
          exact ⟨c :: us, vs, by rw [e]; rfl, ⟨h.1, h1⟩, h2⟩
    obtain ⟨us, vs, rfl, h1, h2⟩ := key _ _ _ h
    rcases List.mem_append.1 hu with q | q
    · exact enc_one a _ us h1 u q
    · cases vs with
      | nil => cases q
      | cons v vs =>
        cases vs with
        | cons v' vs => simp [Reps] at h2
        | nil =>
          rw [List.mem_singleton] at q; subst q
          obtain ⟨ad, c, rfl, _⟩ : SlAt (Ty.tree a).sz ((Ty.tree a).At G.imm) (Tree.kids x) u := h2.1
          rfl
  | .int _, _, [], h, _, _ => by simp [Ty.enc, Reps] at h
  | .int _, _, _ :: _ :: _, h, _, _ => by simp [Ty.enc, Reps] at h
  | .byte, _, [], h, _, _ => by simp [Ty.enc, Reps] at h
  | .byte, _, _ :: _ :: _, h, _, _ => by simp [Ty.enc, Reps] at h
  | .bool, _, [], h, _, _ => by simp [Ty.enc, Reps] at h
  | .bool, _, _ :: _ :: _, h, _, _ => by simp [Ty.enc, Reps] at h
  | .str, _, [], h, _, _ => by simp [Ty.enc, Reps] at h
  | .str, _, _ :: _ :: _, h, _, _ => by simp [Ty.enc, Reps] at h
  | .list _, _, [], h, _, _ => by simp [Ty.enc, Reps] at h
  | .list _, _, _ :: _ :: _, h, _, _ => by simp [Ty.enc, Reps] at h
omit [LC] in
theorem Reps.cells {w : World} {b : Nat} : ∀ (xs : List AV) (cs : List Value) (o : Nat), Reps xs (Gw w) cs → (∀ v ∈ cs, v.oneCell' = true) → (∀ (j : Nat) (v : Value), cs[j]? = some v → w.cell? ⟨b, o + j, none⟩ = some v) → RepCells xs (Gw w) b o
  | [], [], _, _, _, _ => trivial
  | [], _ :: _, _, h, _, _ => by simp [Reps] at h
  | _ :: _, [], _, h, _, _ => by simp [Reps] at h
  | x :: xs, c :: cs, o, h, h1, h2 => by
    refine ⟨⟨c, Gw_imm (h2 0 c rfl) (h1 c List.mem_cons_self), h.1⟩, Reps.cells xs cs (o + 1) h.2 (fun v hv => h1 v (List.mem_cons_of_mem _ hv)) (fun j v hj => ?_)⟩
    have := h2 (j + 1) v hj
    rw [show o + 1 + j = o + (j + 1) by omega]; exact this
section
variable {H : Type} {enc : TypeId × Value → H} {P : Program} {w : World} {base : Nat} {spare : Nat → Bool} {held : Bool}
omit [LC] in
theorem flds_open (n m : Nat) (cs : List Value)
    (ih : ∀ (τ : Ty) (t : TypeId) (cs : List Value) (y : DataW H × List MemPlace), tyOk P n τ t = true → DataW.trod enc P w base spare held m t cs = some y → ∃ x : τ.den, τ.bd x ∧ Reps (τ.enc x) (Gw w) cs) :
    ∀ (fs : List Field) (τ : Ty) (o : Nat), fldsOk P (tyOk P n) τ fs o = true → (∀ f ∈ fs, ∃ y, DataW.trod enc P w base spare held m f.type ((cs.drop f.offset).take (P.cellsOf f.type)) = some y) →
      ∃ x : τ.den, τ.bd x ∧ Reps (τ.enc x) (Gw w) ((cs.drop o).take τ.sz)
  | [], τ, o, h, _ => by cases τ <;> simp [fldsOk] at h
  | [f], τ, o, h, hf => by
    have h' : (f.offset == o && (P.cellsOf f.type == τ.sz && tyOk P n τ f.type)) = true := by cases τ <;> exact h
    simp only [Bool.and_eq_true, beq_iff_eq] at h'
    obtain ⟨y, hy⟩ := hf f List.mem_cons_self
    rw [h'.1, h'.2.1] at hy
    exact ih τ f.type _ y h'.2.2 hy
  | f :: g :: fs, τ, o, h, hf => by
    cases τ with
    | prod a b =>
      have h' : (f.offset == o && (P.cellsOf f.type == a.sz && (tyOk P n a f.type && fldsOk P (tyOk P n) b (g :: fs) (o + a.sz)))) = true := h
      simp only [Bool.and_eq_true, beq_iff_eq] at h'
      obtain ⟨y, hy⟩ := hf f List.mem_cons_self
      rw [h'.1, h'.2.1] at hy
      obtain ⟨x1, b1, r1⟩ := ih a f.type _ y h'.2.2.1 hy
      obtain ⟨x2, b2, r2⟩ := flds_open n m cs ih (g :: fs) b (o + a.sz) h'.2.2.2 (fun f' hf' => hf f' (List.mem_cons_of_mem _ hf'))
      refine ⟨(x1, x2), ⟨b1, b2⟩, ?_⟩
      show Reps (a.enc x1 ++ b.enc x2) (Gw w) ((cs.drop o).take (a.sz + b.sz))
      rw [List.take_add, List.drop_drop]
      exact Reps.app r1 r2
    | _ => simp [fldsOk] at h
omit [LC] in
theorem open_cells : ∀ (m n : Nat) (τ : Ty) (t : TypeId) (cs : List Value) (y : DataW H × List MemPlace), tyOk P n τ t = true → DataW.trod enc P w base spare held m t cs = some y → ∃ x : τ.den, τ.bd x ∧ Reps (τ.enc x) (Gw w) cs := by
  intro m
  induction m with
  | zero => intro n τ t cs y _ h; simp [DataW.trod] at h
  | succ m ih =>
    intro n τ t cs y ht h
    cases n with
    | zero => simp [tyOk] at ht
    | succ n =>
      cases τ with
      | int k =>
        obtain ⟨n, rfl, _, hw⟩ := DataW.trod_int (tyOk_int ht) h
        exact ⟨n, hw, rfl, trivial⟩
      | byte =>
        obtain ⟨n, rfl, _, hw⟩ := DataW.trod_int (tyOk_byte ht) h
        have hb : 0 ≤ n ∧ n ≤ 255 := by simp only [Lit.wf, Bool.and_eq_true, decide_eq_true_eq] at hw; exact hw
        refine ⟨UInt8.ofNat n.toNat, trivial, ?_, trivial⟩
        show Value.int .u8 n = .int .u8 ((UInt8.ofNat n.toNat).toNat : Int)
        rw [UInt8.toNat_ofNat', Nat.mod_eq_of_lt (by omega)]
        congr 1; omega
      | bool =>
        obtain ⟨b, rfl, _⟩ := DataW.trod_bool (tyOk_bool ht) h
        exact ⟨b, trivial, rfl, trivial⟩
      | str =>
        obtain ⟨s, rfl, _, hs⟩ := DataW.trod_string (tyOk_str ht) h
        refine ⟨s.data.toList, ?_, ?_, trivial⟩
        · show s.data.toList.length ≤ maxLen
          rw [Array.length_toList]; exact hs
        · show Value.string s = .string ⟨s.data.toList.toArray⟩
          simp
      | unit => simp [tyOk] at ht
      | tree a => simp [tyOk] at ht
      | prod a b =>
        unfold tyOk at ht
        split at ht
        · rename_i fs hu
          simp only [Bool.and_eq_true, beq_iff_eq] at ht
          obtain ⟨xs, n', e1, _, hlen, hxl, hg⟩ := DataW.trod_struct hu h
          cases e1
          obtain ⟨x, hb, hr⟩ := flds_open n m cs (fun τ t cs y => ih n τ t cs y) fs.toList (.prod a b) 0 ht.2 (fun f hf => by
            obtain ⟨i, hi, e⟩ := List.getElem_of_mem hf
            have hi' : fs[i]? = some f := by rw [← Array.getElem?_toList, List.getElem?_eq_getElem hi, e]
            have hl : i < xs.length := by rw [hxl]; simpa using hi
            exact ⟨xs[i], by rw [hg i f hi', List.getElem?_eq_getElem hl]⟩)
          refine ⟨x, hb, ?_⟩
          rw [List.drop_zero, List.take_of_length_le (by rw [hlen, ht.1]; exact Nat.le_refl _)] at hr
          exact hr
        · cases ht
      | list a =>
        unfold tyOk at ht
        split at ht
        · rename_i e hu
          simp only [Bool.and_eq_true, beq_iff_eq, decide_eq_true_eq] at ht
          obtain ⟨hsz, hpos, hte⟩ := ht
          rcases DataW.trod_slice hu h with ⟨rfl, _⟩ | ⟨ad, len, cap, elems, rest, n', e1, rfl, _, _, hlc, hcm, hel, hget, _⟩
          · exact ⟨[], ⟨Nat.zero_le _, fun x hx => by cases hx⟩, ⟨none, 0, rfl, Nat.le_refl _, .inl rfl⟩, trivial⟩
          · cases e1
            have each : ∀ i, i < len → ∃ x : a.den, a.bd x ∧ ad.spot = none ∧ a.At (Gw w).imm x ad.block (ad.off + i * a.sz) := by
              intro i hi
              have h1 := hget i hi
              rw [List.getElem?_eq_getElem (by omega)] at h1
              obtain ⟨cs, hc, hc2⟩ := Option.bind_eq_some_iff.1 h1
              obtain ⟨x, hb, hr⟩ := ih n a e cs _ hte hc2
              unfold World.cells? at hc
              split at hc
              · have hl := mapM_some_length hc
                rw [List.length_range, hsz] at hl
                have hcell : ∀ (j : Nat) (v : Value), cs[j]? = some v → w.cell? ((ad.add (i * P.cellsOf e)).add j) = some v := by
                  intro j v hj
                  have hj' : j < cs.length := by
                    by_cases q : j < cs.length
                    · exact q
                    · rw [List.getElem?_eq_none (by omega)] at hj; cases hj
                  have := mapM_some_get hc j j (by rw [List.getElem?_range (by omega)])
                  rw [this, hj]
                have hspot : ad.spot = none := by
                  have g0 := hget 0 (by omega)
                  rw [List.getElem?_eq_getElem (by omega)] at g0
                  obtain ⟨cs0, hc0, _⟩ := Option.bind_eq_some_iff.1 g0
                  unfold World.cells? at hc0
                  split at hc0
                  · have hl0 := mapM_some_length hc0
                    rw [List.length_range, hsz] at hl0
                    have := mapM_some_get hc0 0 0 (by rw [List.getElem?_range (by omega)])
                    rw [List.getElem?_eq_getElem (by omega)] at this
                    simp only [Nat.zero_mul, Addr.add, if_true] at this
                    unfold World.cell? at this
                    cases hs : ad.spot with
                    | none => rfl
                    | some q =>
                      rw [hs] at this
                      split at this
                      · simp at this
                      · cases this
                  · cases hc0
                refine ⟨x, hb, hspot, ?_⟩
                refine At_iff.1 (Reps.cells _ cs _ hr (enc_one a x cs hr) (fun j v hj => ?_))
                have := hcell j v hj
                rw [hsz] at this
                have ea : (ad.add (i * a.sz)).add j = ⟨ad.block, ad.off + i * a.sz + j, none⟩ := by
                  obtain ⟨b, o, s⟩ := ad
                  simp only [] at hspot
                  subst hspot
                  unfold Addr.add
                  by_cases q1 : i * a.sz = 0
                  · by_cases q2 : j = 0
                    · simp [q1, q2]
                    · simp [q1, q2]
                  · by_cases q2 : j = 0
                    · simp [q1, q2]
                    · simp [q1, q2]
                rw [ea] at this
                exact this
              · cases hc
            have lst : ∀ k, k ≤ len → ∃ l : List a.den, l.length = k ∧ (∀ x ∈ l, a.bd x) ∧ ∀ (j : Nat) (x : a.den), l[j]? = some x → a.At (Gw w).imm x ad.block (ad.off + j * a.sz) := by
              intro k
              induction k with
              | zero => intro _; exact ⟨[], rfl, fun x hx => (by cases hx), fun j x hj => by simp at hj⟩
              | succ k ihk =>
                intro hk
                obtain ⟨l, l1, l2, l3⟩ := ihk (by omega)
                obtain ⟨x, x1, _, x2⟩ := each k (by omega)
                refine ⟨l ++ [x], by simp [l1], fun y hy => ?_, fun j y hj => ?_⟩
                · rcases List.mem_append.1 hy with q | q
                  · exact l2 y q
                  · rw [List.mem_singleton] at q; subst q; exact x1
                · by_cases q : j < l.length
                  · rw [List.getElem?_append_left q] at hj; exact l3 j y hj
                  · rw [List.getElem?_append_right (by omega)] at hj
                    have : j = k := by
                      by_cases q2 : j - l.length = 0
                      · omega
                      · rw [List.getElem?_eq_none (by simp; omega)] at hj; cases hj
                    subst this
                    rw [l1, Nat.sub_self] at hj
                    cases hj
                    exact x2
            obtain ⟨l, l1, l2, l3⟩ := lst len (Nat.le_refl _)
            refine ⟨l, ⟨by show l.length ≤ maxLen; omega, l2⟩, ⟨some ad, cap, by rw [← l1], by omega, ?_⟩, trivial⟩
            by_cases q : l = []
            · exact .inl q
            · obtain ⟨_, _, hs, _⟩ := each 0 (by have := List.length_pos_iff.2 q; omega)
              refine .inr ⟨ad.block, ad.off, ?_, l3⟩
              cases ad; simp only [] at hs; subst hs; rfl
        · cases ht
omit [LC] in
theorem open_arg {r : Reach} {bb n : Nat} {τ : Ty} {t : TypeId} {v : Value} {d : DataW H} {ps : List MemPlace} (ht : tyOk P n τ t = true) (hv : Value.okWide P w r bb t v) (h : DataW.Trod enc P w base spare held t v d ps) :
    ∃ x : τ.den, τ.bd x ∧ Rep (τ.av x) (Gw w) v := by
  obtain ⟨m, hm⟩ := h
  obtain ⟨x, hb, hr⟩ := open_cells m n τ t _ _ ht hm
  refine ⟨x, hb, ?_⟩
  cases n with
  | zero => simp [tyOk] at ht
  | succ n =>
    cases τ with
    | int k => obtain ⟨_, rfl⟩ := okWide_int (tyOk_int ht) hv; exact hr.1
    | byte => obtain ⟨_, rfl⟩ := okWide_int (tyOk_byte ht) hv; exact hr.1
    | bool => obtain ⟨_, rfl⟩ := okWide_bool (tyOk_bool ht) hv; exact hr.1
    | str => obtain ⟨_, rfl⟩ := okWide_string (tyOk_str ht) hv; exact hr.1
    | unit => simp [tyOk] at ht
    | tree a => simp [tyOk] at ht
    | prod a b =>
      unfold tyOk at ht
      split at ht
      · rename_i fs hu
        obtain ⟨cs, rfl, _⟩ := okWide_struct hu hv
        exact ⟨cs, rfl, hr⟩
      · cases ht
    | list a =>
      unfold tyOk at ht
      split at ht
      · rename_i e hu
        obtain ⟨_, _, _, rfl⟩ := okWide_slice hu hv
        exact hr.1
      · cases ht
end
end Go.Sym
/- A law's claim out of its plain proof: the function hands back true at all plain data that its arguments may stand for. -/
namespace Go.Sym
open Go.ChangeShapes Go.WideShapes Go.ChangeAt Go.RowKit
variable [LC]

omit [LC] in
theorem lt63 {n : Nat} (h : n ≤ maxLen) : (n : Int) < 9223372036854775808 := by unfold maxLen at h; omega
def tysOk (P : Program) (n : Nat) : List Ty → List TypeId → Bool
  | [], [] => true
  | τ :: τs, t :: ts => tyOk P n τ t && tysOk P n τs ts
  | _, _ => false
/-- what the arguments are bound to -/
def bds : (τs : List Ty) → Pts.den (τs.map .h) → Prop
  | [], _ => True
  | τ :: τs, x => τ.bd x.1 ∧ bds τs x.2
section
variable {H : Type} {enc : TypeId × Value → H} {P : Program} {w : World} {base : Nat} {spare : Nat → Bool} {held : Bool}
omit [LC] in
theorem open_args {r : Reach} {bb n : Nat} : ∀ (τs : List Ty) (ts : List TypeId) (vs : List Value) (ds : List (DataW H)) (ps : List MemPlace), tysOk P n τs ts = true →
    (∀ (j : Nat) t v, ts[j]? = some t → vs[j]? = some v → Value.okWide P w r bb t v) → DataW.TrodAll enc P w base spare held ts vs ds ps →
    ∃ x : Pts.den (τs.map .h), bds τs x ∧ Reps (Pts.put (τs.map .h) x) (Gw w) vs
  | [], [], vs, ds, ps, _, _, h => by
    obtain ⟨rfl, _, _⟩ := trodAll_nil h
    exact ⟨(), trivial, trivial⟩
  | τ :: τs, t :: ts, vs, ds, ps, h1, h2, h => by
    obtain ⟨v, vs', d, ds', p, q, rfl, rfl, rfl, hd, hr⟩ := trodAll_cons h
    simp only [tysOk, Bool.and_eq_true] at h1
    obtain ⟨x, xb, xr⟩ := open_arg h1.1 (h2 0 t v rfl rfl) hd
    obtain ⟨y, yb, yr⟩ := open_args τs ts vs' ds' q h1.2 (fun j t v ht hv => h2 (j + 1) t v ht hv) hr
    exact ⟨(x, y), ⟨xb, yb⟩, xr, yr⟩
  | [], _ :: _, _, _, _, h, _, _ => by simp [tysOk] at h
  | _ :: _, [], _, _, _, h, _, _ => by simp [tysOk] at h
omit [LC] in
theorem stay_args {W W' : World} (laid : laidOutB P = true) (hb : Below W.heap.size W W') : ∀ (ts : List TypeId) (vs : List Value) (ds : List (DataW H)) (ps : List MemPlace),
    ts.all (fun t => P.readableRec t && decide (t < P.types.size)) = true → DataW.TrodAll enc P W 0 (fun _ => true) true ts vs ds ps → DataW.TrodAll enc P W' 0 (fun b => decide (b < W.heap.size)) true ts vs ds ps
  | [], vs, ds, ps, _, h => by
    obtain ⟨rfl, rfl, rfl⟩ := trodAll_nil h
    exact trodAll_mk0
  | t :: ts, vs, ds, ps, h1, h => by
    obtain ⟨v, vs', d, ds', p, q, rfl, rfl, rfl, hd, hr⟩ := trodAll_cons h
    simp only [List.all_cons, Bool.and_eq_true, decide_eq_true_eq] at h1
    have lt : ∀ x ∈ p, x.block < W.heap.size := by obtain ⟨m, hm⟩ := hd; exact DataW.trod_lt m _ _ _ hm
    exact trodAll_cons_mk (Below.trod laid h1.1.1 h1.1.2 hd hb lt) (stay_args laid hb ts vs' ds' q h1.2 hr)
end
theorem walk_of {P : Program} {f : FuncId} {xs : List AV} (h : CallsTo P f xs [] (.bool true) []) (vs : List Value) (w : World) (hr : Reps xs (Gw w) vs) :
    Calls P f vs.toArray w fun e w' => e = .returned (.bool true) ∧ Below w.heap.size w w' := by
  refine (h w (Gw w) vs (Gw_mem w) hr).mono ?_
  rintro e w' ⟨v, G, rfl, hfin, hrep⟩
  have hv : v = .bool true := hrep
  subst hv
  refine ⟨rfl, hfin.bel.os, hfin.bel.tape, hfin.bel.output, hfin.bel.size, fun k hk => hfin.bel.block k hk ?_⟩
  rintro ⟨n, bx, hl, _⟩
  cases hl
theorem lifted {H : Type} {enc : TypeId × Value → H} {C : Checked} {os : Os} {f : FuncId} {fn : Func} {s : ChangeSpec} {conds : List PathCond} {t : TypeId} {n : Nat} (τs : List Ty)
    (own : ownKnob C.prog.godebug = none) (laid : laidOutB C.prog = true) (started : os.Started) (noInit : C.prog.inits.idxOf? f = none) (hfn : C.prog.funcs[f]? = some fn)
    (witness : ∃ (w : World) (tape : Tape) (i : Input), w.os = os ∧ (w.forCall tape i).Shaped C.prog ∧ i.vars = [] ∧ Input.okWide C.prog (w.forCall tape i) .any w.heap.size f i ∧
      s.pre6 enc C.prog fn conds false (w.forCall tape i).memory i.args ∧ ({} : Assume).holds C.prog (lone (Frame.enter C.prog f i.args .normal) [] (w.forCall tape i)))
    (hvars : s.vars = []) (hspec : ∀ ds : List (DataW H), ds.length = fn.params.size → s.fn H ds = { results := [.lit (.bool true)], args := ds })
    (htys : tysOk C.prog n τs fn.params.toList = true) (hread : fn.params.toList.all (fun t => C.prog.readableRec t && decide (t < C.prog.types.size)) = true)
    (hres : fn.resultTypes = #[t]) (hbool : C.prog.underlying t = some .bool)
    (hcall : ∀ x : Pts.den (τs.map .h), bds τs x → CallsTo C.prog f (Pts.put (τs.map .h) x) [] (.bool true) []) :
    ReturnsInHanded {} C os f .any (s.pre6 enc C.prog fn conds false) (s.post enc C.prog fn false true false false) := by
  refine returnsInHanded_of_change own started noInit hfn witness ?_
  intro W base args ds gs before hval hW _ _
  have hW' := hW
  obtain ⟨p, q, hA, hV, rfl, _, _⟩ := hW
  rw [hvars] at hV
  obtain ⟨rfl, rfl⟩ := trodVars_none hV
  have hl : ds.length = fn.params.size := by
    have key : ∀ (ts : List TypeId) (vs : List Value) (ds : List (DataW H)) (ps : List MemPlace), DataW.TrodAll enc C.prog W 0 (fun _ => true) true ts vs ds ps → ds.length = ts.length := by
      intro ts
      induction ts with
      | nil => intro vs ds ps h; obtain ⟨_, rfl, _⟩ := trodAll_nil h; rfl
      | cons t ts ih =>
        intro vs ds ps h
        obtain ⟨v, vs', d, ds', p, q, _, rfl, _, _, hr⟩ := trodAll_cons h
        rw [List.length_cons, List.length_cons, ih _ _ _ hr]
    rw [key _ _ _ _ hA, Array.length_toList]
  obtain ⟨x, xb, xr⟩ := open_args τs fn.params.toList args.toList ds p htys (fun j t v ht hv => hval j t v (by rw [← Array.getElem?_toList]; exact ht) (by rw [← Array.getElem?_toList]; exact hv)) hA
  have hc := walk_of (hcall x xb) args.toList W xr
  rw [Array.toArray_toList] at hc
  refine hc.mono fun e W' ⟨he, bel⟩ => ?_
  subst he
  refine ⟨_, rfl, ds, [], p ++ [], [], p, [], hW', ?_⟩
  rw [List.append_nil, hspec ds hl, hres, hvars]
  exact ⟨trodAll_mk1 (shut_bool hbool _), stay_args laid bel _ _ _ _ hread hA, rfl, bel.frame _, fun h => by cases h⟩
end Go.Sym
/- A law's claim out of its plain proof, where the row lists package variables with what they hold. -/
namespace Go.Sym
open Go.ChangeShapes Go.WideShapes Go.ChangeAt Go.RowKit
variable [LC]

theorem liftedL {H : Type} {enc : TypeId × Value → H} {C : Checked} {os : Os} {f : FuncId} {fn : Func} {s : ChangeSpec} {conds : List PathCond} {t : TypeId} {n : Nat} (τs : List Ty) (l : List (String × DataW Unit))
    (own : ownKnob C.prog.godebug = none) (laid : laidOutB C.prog = true) (started : os.Started) (noInit : C.prog.inits.idxOf? f = none) (hfn : C.prog.funcs[f]? = some fn)
    (witness : ∃ (w : World) (tape : Tape) (i : Input), w.os = os ∧ (w.forCall tape i).Shaped C.prog ∧ i.vars = [] ∧ Input.okWide C.prog (w.forCall tape i) .any w.heap.size f i ∧
      ((s.pre enc C.prog fn conds false (w.forCall tape i).memory i.args ∧ laidMetH C.prog l (w.forCall tape i).memory) ∧ sizedMet enc C.prog fn (OpenSpec.ofChange s) false (w.forCall tape i).memory i.args) ∧ ({} : Assume).holds C.prog (lone (Frame.enter C.prog f i.args .normal) [] (w.forCall tape i)))
    (hvars : s.vars = []) (hspec : ∀ ds : List (DataW H), ds.length = fn.params.size → s.fn H ds = { results := [.lit (.bool true)], args := ds })
    (htys : tysOk C.prog n τs fn.params.toList = true) (hread : fn.params.toList.all (fun t => C.prog.readableRec t && decide (t < C.prog.types.size)) = true)
    (hres : fn.resultTypes = #[t]) (hbool : C.prog.underlying t = some .bool)
    (hcall : ∀ x : Pts.den (τs.map .h), bds τs x → CallsTo C.prog f (Pts.put (τs.map .h) x) [] (.bool true) []) :
    ReturnsInHanded {} C os f .any (fun w args => (s.pre enc C.prog fn conds false w args ∧ laidMetH C.prog l w) ∧ sizedMet enc C.prog fn (OpenSpec.ofChange s) false w args) (s.post enc C.prog fn false true false false) := by
  refine returnsInHanded_of_change_and (X := fun w _ => laidMetH C.prog l w) (fun _ _ _ hh h => laidMetH.of_heap hh h) own started noInit hfn witness ?_
  intro W base args ds gs before hval hW _ _ _ _
  have hW' := hW
  obtain ⟨p, q, hA, hV, rfl, _, _⟩ := hW
  rw [hvars] at hV
  obtain ⟨rfl, rfl⟩ := trodVars_none hV
  have hl : ds.length = fn.params.size := by
    have key : ∀ (ts : List TypeId) (vs : List Value) (ds : List (DataW H)) (ps : List MemPlace), DataW.TrodAll enc C.prog W 0 (fun _ => true) true ts vs ds ps → ds.length = ts.length := by
      intro ts
      induction ts with
      | nil => intro vs ds ps h; obtain ⟨_, rfl, _⟩ := trodAll_nil h; rfl
      | cons t ts ih =>
        intro vs ds ps h
        obtain ⟨v, vs', d, ds', p, q, _, rfl, _, _, hr⟩ := trodAll_cons h
        rw [List.length_cons, List.length_cons, ih _ _ _ hr]
    rw [key _ _ _ _ hA, Array.length_toList]
  obtain ⟨x, xb, xr⟩ := open_args τs fn.params.toList args.toList ds p htys (fun j t v ht hv => hval j t v (by rw [← Array.getElem?_toList]; exact ht) (by rw [← Array.getElem?_toList]; exact hv)) hA
  have hc := walk_of (hcall x xb) args.toList W xr
  rw [Array.toArray_toList] at hc
  refine hc.mono fun e W' ⟨he, bel⟩ => ?_
  subst he
  refine ⟨_, rfl, ds, [], p ++ [], [], p, [], hW', ?_⟩
  rw [List.append_nil, hspec ds hl, hres, hvars]
  exact ⟨trodAll_mk1 (shut_bool hbool _), stay_args laid bel _ _ _ _ hread hA, rfl, bel.frame _, fun h => by cases h⟩
end Go.Sym
