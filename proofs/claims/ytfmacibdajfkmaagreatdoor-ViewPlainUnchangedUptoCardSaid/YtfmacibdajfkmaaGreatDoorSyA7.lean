/- What the claim rests on, part 7: gathered texts. -/
import Derived.Lib.CountLaws
import Derived.Lib.IndexLaws
import Derived.MakeChecks
import Derived.LaidLaws
import Derived.Test.YtfmacibdajfkmaaGreatDoorSyA6
/- Transfer: names of encodings, in plain words. -/
namespace Go.Sym.Tr

/-- a capital letter made small -/
def lo (c : UInt8) : UInt8 := if 65 ≤ c ∧ c ≤ 90 then c + 32 else c
theorem lo_add (c : UInt8) : (c + 97) - 65 = c + 32 := by
  rw [UInt8.sub_eq_add_neg, UInt8.add_assoc]; rfl
theorem lower_go (fu : Nat) : ∀ (n : Nat) (pre suf : List UInt8), suf.length < n → pre.length + suf.length ≤ 9223372036854775807 →
    F_basic_Lower_p0 fu n ((pre.length + suf.length : Nat) : Int) (pre.length : Int) (pre ++ suf) = some (pre ++ suf.map lo)
  | 0, _, _, h, _ => absurd h (by omega)
  | n + 1, pre, [], _, _ => by simp [F_basic_Lower_p0, F_basic_Lower_b0]
  | n + 1, pre, c :: suf, h, hb => by
    simp only [List.length_cons] at h hb
    have ih := fun d => lower_go fu n (pre ++ [d]) suf (by omega) (by simp; omega)
    simp only [List.length_append, List.length_cons, List.length_nil, List.append_assoc, List.singleton_append, Nat.zero_add] at ih
    have e : ((pre.length + (c :: suf).length : Nat) : Int) = ((pre.length + 1 + suf.length : Nat) : Int) := by simp only [List.length_cons]; omega
    have hl : 0 ≤ (pre.length : Int) ∧ (pre.length : Int).toNat < (pre ++ c :: suf).length := by simp
    rw [e]
    simp only [F_basic_Lower_p0, F_basic_Lower_b0]
    rw [bif_dt (by omega), bif_dt hl, get_mid, Option.bind_some, set_mid, nx_nat _ (by omega), bif_d, bif_d, ih, ih, bif_dt hl, Option.bind_some]
    unfold lo
    simp only [List.map_cons, lo_add]
    by_cases h1 : (65 : UInt8) ≤ c
    · by_cases h2 : c ≤ 90
      · simp [h1, h2]
      · simp [h1, h2]
    · simp [h1]
theorem lower_eq (fu : Nat) (s : List UInt8) (h : s.length < fu) (hb : s.length ≤ maxLen) : F_basic_Lower fu s = some (s.map lo) := by
  unfold F_basic_Lower
  rw [bif_dt hb]
  have := lower_go fu fu [] s h (by simpa [maxLen] using hb)
  simpa using this
theorem r1_in_eq (x a b : Int) : F_R1_In x a b = some (decide (a ≤ x ∧ x ≤ b)) := by
  unfold F_R1_In; by_cases h : a ≤ x <;> simp [h]
theorem toNat_le (a b : UInt8) : ((a.toNat : Int) ≤ (b.toNat : Int)) ↔ a ≤ b := by rw [UInt8.le_iff_toNat_le]; omega
theorem same_eq (fu : Nat) (a b : List UInt8) (ha : a.length < fu) (hb : b.length < fu) (ha' : a.length ≤ maxLen) (hb' : b.length ≤ maxLen) : F_basic_Same fu a b = some (a.map lo == b.map lo) := by
  unfold F_basic_Same
  rw [bif_eq, lower_eq fu a ha ha', lower_eq fu b hb hb']
  by_cases h : (a.length : Int) = b.length
  · rw [if_pos h]; rfl
  · rw [if_neg h]
    have : (a.map lo == b.map lo) = false := by
      rw [beq_eq_false_iff_ne]; intro q; apply h; have := congrArg List.length q; simp only [List.length_map] at this; omega
    rw [this]
abbrev n7 : List UInt8 := [55, 98, 105, 116]
abbrev n8 : List UInt8 := [56, 98, 105, 116]
abbrev n64 : List UInt8 := [98, 97, 115, 101, 54, 52]
abbrev nqp : List UInt8 := [113, 117, 111, 116, 101, 100, 45, 112, 114, 105, 110, 116, 97, 98, 108, 101]
/-- the number of an encoding -/
def cod (s : List UInt8) : Int := if n7.map lo = s.map lo then 0 else if n8.map lo = s.map lo then 1 else if n64.map lo = s.map lo then 2 else if nqp.map lo = s.map lo then 3 else -1
theorem bif_beqL {α : Type} {a b : List UInt8} {x y : α} : (bif a == b then x else y) = if a = b then x else y := by
  by_cases h : a = b
  · rw [bif_t (by simp [h]), if_pos h]
  · rw [bif_f (by simp [h]), if_neg h]
theorem find_eq (fu : Nat) (s : List UInt8) (hf : 20 ≤ fu) (h : s.length < fu) (hb : s.length ≤ maxLen) : F_transfer_find fu s = some (if cod s = 0 then .inl (n7, (true, 127)) else if cod s = 1 then .inl (n8, (true, 255)) else if cod s = 2 then .inr (.inl (n64, true)) else if cod s = 3 then .inr (.inr (.inl (nqp, true))) else .inr (.inr (.inr ([], false)))) := by
  unfold F_transfer_find F_transfer_plain
  have A : ∀ a : List UInt8, a.length ≤ 16 → F_basic_Same fu a s = some (a.map lo == s.map lo) := fun a ha => same_eq fu a s (by omega) h (by simp only [maxLen]; omega) hb
  simp only [Option.bind_some]
  rw [A n7 (by decide), A n8 (by decide), A n64 (by decide), A nqp (by decide)]
  simp only [Option.bind_some, bif_beqL]
  unfold cod
  by_cases h0 : n7.map lo = s.map lo
  · simp only [if_pos h0]; rfl
  · by_cases h1 : n8.map lo = s.map lo
    · simp only [if_neg h0, if_pos h1]; rfl
    · by_cases h2 : n64.map lo = s.map lo
      · simp only [if_neg h0, if_neg h1, if_pos h2]; rfl
      · by_cases h3 : nqp.map lo = s.map lo
        · simp only [if_neg h0, if_neg h1, if_neg h2, if_pos h3]; rfl
        · simp only [if_neg h0, if_neg h1, if_neg h2, if_neg h3]; rfl
end Go.Sym.Tr
/- Transfer: the first byte that is not permitted. -/
namespace Go.Sym.Tr

theorem isl_true {c : UInt8} {r : List UInt8} (h : (c == 13 && r.head? == some 10) = true) : c = 13 ∧ ∃ r', r = 10 :: r' := by
  rw [Bool.and_eq_true] at h
  refine ⟨by simpa using h.1, ?_⟩
  cases r with
  | nil => simp at h
  | cons d r => exact ⟨r, by simpa using h.2⟩
/-- the first byte that is not permitted: m is the greatest one; col, i: how much of the line, and of all, went before -/
def wr (m : UInt8) (col i : Nat) : List UInt8 → Int
  | [] => -1
  | c :: r => if (c == 13 && r.head? == some 10) = true then wr m 0 (i + 2) r.tail else if c = 0 ∨ c = 13 ∨ c = 10 ∨ m < c ∨ col = 998 then (i : Int) else wr m (col + 1) (i + 1) r
termination_by l => l.length
decreasing_by all_goals (simp only [List.length_cons, List.length_tail]; omega)
theorem wr_nil (m : UInt8) (col i : Nat) : wr m col i [] = -1 := by rw [wr]
theorem wr_cons (m : UInt8) (col i : Nat) (c : UInt8) (r : List UInt8) : wr m col i (c :: r) = if (c == 13 && r.head? == some 10) = true then wr m 0 (i + 2) r.tail else if c = 0 ∨ c = 13 ∨ c = 10 ∨ m < c ∨ col = 998 then (i : Int) else wr m (col + 1) (i + 1) r := by rw [wr]
theorem wr_lo (m : UInt8) (n : Nat) : ∀ (s : List UInt8) (col i : Nat), s.length ≤ n → wr m col i s = -1 ∨ (i : Int) ≤ wr m col i s := by
  induction n with
  | zero =>
    intro s col i h
    cases s with
    | nil => left; rw [wr]
    | cons c r => simp at h
  | succ n ih =>
    intro s col i h
    cases s with
    | nil => left; rw [wr]
    | cons c r =>
      simp only [List.length_cons] at h
      rw [wr_cons]
      split
      · rcases ih r.tail 0 (i + 2) (by rw [List.length_tail]; omega) with k | k
        · exact .inl k
        · exact .inr (by omega)
      · split
        · exact .inr (Int.le_refl _)
        · rcases ih r (col + 1) (i + 1) (by omega) with k | k
          · exact .inl k
          · exact .inr (by omega)
theorem wrong_go (fu : Nat) (m : UInt8) (n : Nat) : ∀ (pre suf : List UInt8) (col : Nat), suf.length < n → pre.length + suf.length ≤ 4611686018427387904 → col ≤ 998 →
    F_transfer_wrong_p0 fu n (pre ++ suf) m (col : Int) (pre.length : Int) = some (wr m col pre.length suf) := by
  induction n with
  | zero => intro pre suf col h; exact absurd h (by omega)
  | succ n ih =>
    intro pre suf col h hb hcol
    rw [F_transfer_wrong_p0, F_transfer_wrong_b0]
    cases suf with
    | nil => rw [bif_df (by simp), wr]
    | cons c r =>
      simp only [List.length_cons] at h hb
      have fin : ∀ f, f = (c == 13 && r.head? == some 10) → F_transfer_wrong_p1 fu (F_transfer_wrong_p0 fu n) (pre ++ c :: r) m (col : Int) (pre.length : Int) c f = some (wr m col pre.length (c :: r)) := by
        intro f hf
        unfold F_transfer_wrong_p1
        rw [wr_cons, hf]
        cases hc : (c == 13 && r.head? == some 10)
        · rw [bif_f (by rfl), if_neg (by decide)]
          unfold F_transfer_wrong_p2
          rw [bif_eq8, bif_eq8, bif_eq8, bif_d, bif_eq]
          by_cases h0 : c = 0
          · rw [if_pos h0, if_pos (.inl h0)]
          rw [if_neg h0]
          by_cases h13 : c = 13
          · rw [if_pos h13, if_pos (.inr (.inl h13))]
          rw [if_neg h13]
          by_cases h10 : c = 10
          · rw [if_pos h10, if_pos (.inr (.inr (.inl h10)))]
          rw [if_neg h10]
          by_cases hm : m < c
          · rw [if_pos hm, if_pos (.inr (.inr (.inr (.inl hm))))]
          rw [if_neg hm]
          by_cases hq : col = 998
          · rw [if_pos (by omega), if_pos (.inr (.inr (.inr (.inr hq))))]
          rw [if_neg (by omega), if_neg (by simp [h0, h13, h10, hm, hq]), nx_nat _ (by omega), nx_nat _ (by omega)]
          have := ih (pre ++ [c]) r (col + 1) (by omega) (by simp; omega) (by omega)
          simpa using this
        · obtain ⟨rfl, r', rfl⟩ := isl_true hc
          simp only [List.length_cons] at h hb
          rw [bif_t (by rfl), if_pos rfl, nx_nat _ (by omega), nx_nat _ (by omega), show pre.length + 1 + 1 = pre.length + 2 from rfl]
          have := ih (pre ++ [13, 10]) r' 0 (by omega) (by simp; omega) (by omega)
          simpa using this
      have hl : ((pre ++ c :: r).length : Int) = ((pre.length + r.length + 1 : Nat) : Int) := by simp; omega
      rw [hl, bif_dt (by omega), idx_mid, Option.bind_some, bif_eq8]
      by_cases h13 : c = 13
      · subst h13
        rw [if_pos rfl, nx_nat _ (by omega)]
        cases r with
        | nil => rw [bif_df (by simp)]; exact fin false rfl
        | cons d r =>
          have hi : idx (pre ++ 13 :: d :: r) ((pre.length + 1 : Nat) : Int) = some d := by
            have := idx_mid (pre ++ [13]) d r
            simpa using this
          rw [bif_dt (by simp only [List.length_cons]; omega), hi, Option.bind_some]
          exact fin _ (by cases h : d == 10 <;> simp_all)
      · rw [if_neg h13]
        exact fin false (by rw [beq_false_of_ne h13]; rfl)
/-- the first byte that is not permitted, or -1 -/
def refd (b : List UInt8) (e : Bool) : Int := wr (if e then 255 else 127) 0 0 b
theorem wrong_is (fu : Nat) (b : List UInt8) (e : Bool) (hb : b.length ≤ 4611686018427387904) (hn : b.length < fu) : F_transfer_wrong fu b (if e then 255 else 127) = some (refd b e) := by
  have := wrong_go fu (if e then 255 else 127) fu [] b 0 hn (by simpa using hb) (by omega)
  exact this
theorem refd_lo (b : List UInt8) (e : Bool) (_hb : b.length ≤ 4611686018427387904) : -1 ≤ refd b e := by
  unfold refd
  rcases wr_lo (if e then 255 else 127) b.length b 0 0 (Nat.le_refl _) with h | h <;> omega
end Go.Sym.Tr
/- base64.Encode in plain words. -/
namespace Go.Sym.Tr

def alpha : List UInt8 := [65, 66, 67, 68, 69, 70, 71, 72, 73, 74, 75, 76, 77, 78, 79, 80, 81, 82, 83, 84, 85, 86, 87, 88, 89, 90, 97, 98, 99, 100, 101, 102, 103, 104, 105, 106, 107, 108, 109, 110, 111, 112, 113, 114, 115, 116, 117, 118, 119, 120, 121, 122, 48, 49, 50, 51, 52, 53, 54, 55, 56, 57, 43, 47]
def al (k : Nat) : UInt8 := alpha.getD k 0
theorem al_idx (k : Nat) (h : k < 64) : idx alpha (k : Int) = some (al k) := by
  have h' : k < alpha.length := h
  rw [idx_nat _ _ h']; unfold al; simp [h']
def c0 (x : Nat) : UInt8 := al (x / 262144 % 64)
def c1 (x : Nat) : UInt8 := al (x / 4096 % 64)
def c2 (x : Nat) : UInt8 := al (x / 64 % 64)
def c3 (x : Nat) : UInt8 := al (x % 64)
/-- the characters -/
def e64 : List UInt8 → List UInt8
  | [] => []
  | [a] => [c0 (a.toNat * 65536), c1 (a.toNat * 65536), 61, 61]
  | [a, b] => [c0 (a.toNat * 65536 + b.toNat * 256), c1 (a.toNat * 65536 + b.toNat * 256), c2 (a.toNat * 65536 + b.toNat * 256), 61]
  | a :: b :: c :: r => c0 (a.toNat * 65536 + b.toNat * 256 + c.toNat) :: c1 (a.toNat * 65536 + b.toNat * 256 + c.toNat) :: c2 (a.toNat * 65536 + b.toNat * 256 + c.toNat) :: c3 (a.toNat * 65536 + b.toNat * 256 + c.toNat) :: e64 r
theorem ofInt_nat (x : Nat) (h : x < 18446744073709551616) : (BitVec.ofInt 64 (x : Int)).toNat = x := by
  rw [BitVec.toNat_ofInt]; omega
theorem shl8 (x : Nat) (h : x < 1099511627776) : w64 ((x : Int) * 2 ^ min (8 : Int).toNat 64) = ((256 * x : Nat) : Int) := by
  rw [show (2 : Int) ^ min (8 : Int).toNat 64 = 256 by decide, w64_eq (by omega) (by omega)]; omega
theorem or8 (x y : Nat) (h : x < 1099511627776) (hy : y < 256) : w64 (((BitVec.ofInt 64 (w64 ((x : Int) * 2 ^ min (8 : Int).toNat 64)) ||| BitVec.ofInt 64 (y : Int)).toNat : Int)) = ((256 * x + y : Nat) : Int) := by
  rw [shl8 x h, BitVec.toNat_or, ofInt_nat _ (by omega), ofInt_nat _ (by omega)]
  have := Nat.two_pow_add_eq_or_of_lt (i := 8) (b := y) (by simpa using hy) x
  rw [← show 2 ^ 8 * x + y = 256 * x ||| y from this]
  rw [w64_eq (by omega) (by omega)]
theorem or0 (y : Nat) (hy : y < 256) : w64 (((BitVec.ofInt 64 (0 : Int) ||| BitVec.ofInt 64 (y : Int)).toNat : Int)) = (y : Int) := by
  have h0 : (BitVec.ofInt 64 (0 : Int)).toNat = 0 := ofInt_nat 0 (by omega)
  rw [BitVec.toNat_or, h0, ofInt_nat _ (by omega), Nat.zero_or, w64_eq (by omega) (by omega)]
theorem and63 (x k : Nat) (p : Int) (hp : p = (k : Int)) (hk : k ≤ 30) (h : x < 1099511627776) : w64 (((BitVec.ofInt 64 (Int.fdiv (x : Int) (2 ^ min p.toNat 64)) &&& BitVec.ofInt 64 (63 : Int)).toNat : Int)) = ((x / 2 ^ k % 64 : Nat) : Int) := by
  subst hp
  have e1 : min (k : Int).toNat 64 = k := by omega
  have e2 : Int.fdiv (x : Int) (2 ^ k) = ((x / 2 ^ k : Nat) : Int) := by
    rw [Int.fdiv_eq_ediv_of_nonneg _ (by exact Int.le_of_lt (Int.pow_pos (by decide)))]
    simp
  have hle : x / 2 ^ k ≤ x := Nat.div_le_self _ _
  have h63 : (BitVec.ofInt 64 (63 : Int)).toNat = 63 := ofInt_nat 63 (by omega)
  rw [e1, e2, BitVec.toNat_and, ofInt_nat _ (by omega), h63]
  have := Nat.and_two_pow_sub_one_eq_mod (x / 2 ^ k) 6
  rw [show (63 : Nat) = 2 ^ 6 - 1 by decide, this, show (2 : Nat) ^ 6 = 64 by decide]
  rw [w64_eq (by omega) (by omega)]
theorem and63_18 (x : Nat) (h : x < 1099511627776) : idx alpha (w64 (((BitVec.ofInt 64 (Int.fdiv (x : Int) (2 ^ min (18 : Int).toNat 64)) &&& BitVec.ofInt 64 (63 : Int)).toNat : Int))) = some (c0 x) := by
  rw [and63 x 18 18 rfl (by omega) h, al_idx _ (by omega)]; rfl
theorem and63_12 (x : Nat) (h : x < 1099511627776) : idx alpha (w64 (((BitVec.ofInt 64 (Int.fdiv (x : Int) (2 ^ min (12 : Int).toNat 64)) &&& BitVec.ofInt 64 (63 : Int)).toNat : Int))) = some (c1 x) := by
  rw [and63 x 12 12 rfl (by omega) h, al_idx _ (by omega)]; rfl
theorem and63_6 (x : Nat) (h : x < 1099511627776) : idx alpha (w64 (((BitVec.ofInt 64 (Int.fdiv (x : Int) (2 ^ min (6 : Int).toNat 64)) &&& BitVec.ofInt 64 (63 : Int)).toNat : Int))) = some (c2 x) := by
  rw [and63 x 6 6 rfl (by omega) h, al_idx _ (by omega)]; rfl
theorem and63_0 (x : Nat) (h : x < 1099511627776) : idx alpha (w64 (((BitVec.ofInt 64 (Int.fdiv (x : Int) (2 ^ min (0 : Int).toNat 64)) &&& BitVec.ofInt 64 (63 : Int)).toNat : Int))) = some (c3 x) := by
  rw [and63 x 0 0 rfl (by omega) h, al_idx _ (by omega)]; unfold c3; simp
/-- one group goes out -/
def put4 (r0 : List UInt8 → Int → List UInt8 → Option (List UInt8 × Int × List UInt8)) (k : Nat) (p0 p1 p2 p3 : UInt8) (m1 : List UInt8) (m3 : Int) (m16 : List UInt8) : Option (List UInt8 × Int × List UInt8) :=
  (F_base64_Encode_r0 p0 p1 p2 p3 m3 m16).bind fun v => r0 (m1.drop k) v.1 v.2
theorem p3_1 (fu : Nat) (r0 : List UInt8 → Int → List UInt8 → Option (List UInt8 × Int × List UInt8)) (x : Nat) (hx : x < 1099511627776) (m1 : List UInt8) (h : 1 ≤ m1.length) (m3 : Int) (m16 : List UInt8) :
    F_base64_groups_1_p3 fu r0 1 (x : Int) m1 m3 m16 = put4 r0 1 (c0 x) (c1 x) 61 61 m1 m3 m16 := by
  unfold F_base64_groups_1_p3
  rw [show ([65, 66, 67, 68, 69, 70, 71, 72, 73, 74, 75, 76, 77, 78, 79, 80, 81, 82, 83, 84, 85, 86, 87, 88, 89, 90, 97, 98, 99, 100, 101, 102, 103, 104, 105, 106, 107, 108, 109, 110, 111, 112, 113, 114, 115, 116, 117, 118, 119, 120, 121, 122, 48, 49, 50, 51, 52, 53, 54, 55, 56, 57, 43, 47] : List UInt8) = alpha from rfl]
  rw [and63_18 x hx, and63_12 x hx, and63_6 x hx, and63_0 x hx]
  simp only [Option.bind_some, bif_df (show ¬ (1 : Int) < 0 by decide), bif_df (show ¬ (1 : Int) < 1 by decide), bif_dt (show (1 : Int) < 2 by decide), bif_dt (show (1 : Int) < 3 by decide), bif_dt (show 0 ≤ (1 : Int) ∧ (1 : Int) ≤ (m1.length : Int) by omega)]
  rfl
theorem p3_2 (fu : Nat) (r0 : List UInt8 → Int → List UInt8 → Option (List UInt8 × Int × List UInt8)) (x : Nat) (hx : x < 1099511627776) (m1 : List UInt8) (h : 2 ≤ m1.length) (m3 : Int) (m16 : List UInt8) :
    F_base64_groups_1_p3 fu r0 2 (x : Int) m1 m3 m16 = put4 r0 2 (c0 x) (c1 x) (c2 x) 61 m1 m3 m16 := by
  unfold F_base64_groups_1_p3
  rw [show ([65, 66, 67, 68, 69, 70, 71, 72, 73, 74, 75, 76, 77, 78, 79, 80, 81, 82, 83, 84, 85, 86, 87, 88, 89, 90, 97, 98, 99, 100, 101, 102, 103, 104, 105, 106, 107, 108, 109, 110, 111, 112, 113, 114, 115, 116, 117, 118, 119, 120, 121, 122, 48, 49, 50, 51, 52, 53, 54, 55, 56, 57, 43, 47] : List UInt8) = alpha from rfl]
  rw [and63_18 x hx, and63_12 x hx, and63_6 x hx, and63_0 x hx]
  simp only [Option.bind_some, bif_df (show ¬ (2 : Int) < 0 by decide), bif_df (show ¬ (2 : Int) < 1 by decide), bif_df (show ¬ (2 : Int) < 2 by decide), bif_dt (show (2 : Int) < 3 by decide), bif_dt (show 0 ≤ (2 : Int) ∧ (2 : Int) ≤ (m1.length : Int) by omega)]
  rfl
theorem p3_3 (fu : Nat) (r0 : List UInt8 → Int → List UInt8 → Option (List UInt8 × Int × List UInt8)) (x : Nat) (hx : x < 1099511627776) (m1 : List UInt8) (h : 3 ≤ m1.length) (m3 : Int) (m16 : List UInt8) :
    F_base64_groups_1_p3 fu r0 3 (x : Int) m1 m3 m16 = put4 r0 3 (c0 x) (c1 x) (c2 x) (c3 x) m1 m3 m16 := by
  unfold F_base64_groups_1_p3
  rw [show ([65, 66, 67, 68, 69, 70, 71, 72, 73, 74, 75, 76, 77, 78, 79, 80, 81, 82, 83, 84, 85, 86, 87, 88, 89, 90, 97, 98, 99, 100, 101, 102, 103, 104, 105, 106, 107, 108, 109, 110, 111, 112, 113, 114, 115, 116, 117, 118, 119, 120, 121, 122, 48, 49, 50, 51, 52, 53, 54, 55, 56, 57, 43, 47] : List UInt8) = alpha from rfl]
  rw [and63_18 x hx, and63_12 x hx, and63_6 x hx, and63_0 x hx]
  simp only [Option.bind_some, bif_df (show ¬ (3 : Int) < 0 by decide), bif_df (show ¬ (3 : Int) < 1 by decide), bif_df (show ¬ (3 : Int) < 2 by decide), bif_df (show ¬ (3 : Int) < 3 by decide), bif_dt (show 0 ≤ (3 : Int) ∧ (3 : Int) ≤ (m1.length : Int) by omega)]
  rfl
/-- one round of the groups -/
theorem b0_1 (fu : Nat) (r0 : List UInt8 → Int → List UInt8 → Option (List UInt8 × Int × List UInt8)) (a : UInt8) (m3 : Int) (m16 : List UInt8) :
    F_base64_groups_1_b0 fu r0 [a] m3 m16 = put4 r0 1 (c0 (a.toNat * 65536)) (c1 (a.toNat * 65536)) 61 61 [a] m3 m16 := by
  have ha := a.toNat_lt
  unfold F_base64_groups_1_b0
  have hm : (if (List.length [a] : Int) < 3 then (List.length [a] : Int) else 3) = 1 := rfl
  rw [hm, bif_dt (show (0 : Int) < (List.length [a] : Int) by simp), bif_dt (show (0 : Int) < 1 by decide)]
  rw [show idx [a] 0 = some a from rfl, Option.bind_some, or0 _ (by omega)]
  unfold F_base64_groups_1_p1
  rw [bif_df (show ¬ (1 : Int) < 1 by decide), shl8 _ (by omega)]
  unfold F_base64_groups_1_p2
  rw [bif_df (show ¬ (2 : Int) < 1 by decide), shl8 _ (by omega), p3_1 _ _ _ (by omega) _ (by simp)]
  rw [show 256 * (256 * a.toNat) = a.toNat * 65536 by omega]
theorem b0_2 (fu : Nat) (r0 : List UInt8 → Int → List UInt8 → Option (List UInt8 × Int × List UInt8)) (a b : UInt8) (m3 : Int) (m16 : List UInt8) :
    F_base64_groups_1_b0 fu r0 [a, b] m3 m16 = put4 r0 2 (c0 (a.toNat * 65536 + b.toNat * 256)) (c1 (a.toNat * 65536 + b.toNat * 256)) (c2 (a.toNat * 65536 + b.toNat * 256)) 61 [a, b] m3 m16 := by
  have ha := a.toNat_lt
  have hb := b.toNat_lt
  unfold F_base64_groups_1_b0
  have hm : (if (List.length [a, b] : Int) < 3 then (List.length [a, b] : Int) else 3) = 2 := rfl
  rw [hm, bif_dt (show (0 : Int) < (List.length [a, b] : Int) by simp), bif_dt (show (0 : Int) < 2 by decide)]
  rw [show idx [a, b] 0 = some a from rfl, Option.bind_some, or0 _ (by omega)]
  unfold F_base64_groups_1_p1
  rw [bif_dt (show (1 : Int) < 2 by decide), show idx [a, b] 1 = some b from rfl, Option.bind_some, or8 _ _ (by omega) (by omega)]
  unfold F_base64_groups_1_p2
  rw [bif_df (show ¬ (2 : Int) < 2 by decide), shl8 _ (by omega), p3_2 _ _ _ (by omega) _ (by simp)]
  rw [show 256 * (256 * a.toNat + b.toNat) = a.toNat * 65536 + b.toNat * 256 by omega]
theorem b0_3 (fu : Nat) (r0 : List UInt8 → Int → List UInt8 → Option (List UInt8 × Int × List UInt8)) (a b c : UInt8) (r : List UInt8) (m3 : Int) (m16 : List UInt8) :
    F_base64_groups_1_b0 fu r0 (a :: b :: c :: r) m3 m16 = put4 r0 3 (c0 (a.toNat * 65536 + b.toNat * 256 + c.toNat)) (c1 (a.toNat * 65536 + b.toNat * 256 + c.toNat)) (c2 (a.toNat * 65536 + b.toNat * 256 + c.toNat)) (c3 (a.toNat * 65536 + b.toNat * 256 + c.toNat)) (a :: b :: c :: r) m3 m16 := by
  have ha := a.toNat_lt
  have hb := b.toNat_lt
  have hc := c.toNat_lt
  unfold F_base64_groups_1_b0
  have hl : ((a :: b :: c :: r).length : Int) = (r.length : Int) + 3 := by simp; omega
  have hm : (if ((a :: b :: c :: r).length : Int) < 3 then ((a :: b :: c :: r).length : Int) else 3) = 3 := by rw [if_neg (by omega)]
  rw [hm, bif_dt (show (0 : Int) < ((a :: b :: c :: r).length : Int) by omega), bif_dt (show (0 : Int) < 3 by decide)]
  rw [show idx (a :: b :: c :: r) 0 = some a from rfl, Option.bind_some, or0 _ (by omega)]
  unfold F_base64_groups_1_p1
  rw [bif_dt (show (1 : Int) < 3 by decide), show idx (a :: b :: c :: r) 1 = some b from rfl, Option.bind_some, or8 _ _ (by omega) (by omega)]
  unfold F_base64_groups_1_p2
  rw [bif_dt (show (2 : Int) < 3 by decide), show idx (a :: b :: c :: r) 2 = some c from rfl, Option.bind_some, or8 _ _ (by omega) (by omega), p3_3 _ _ _ (by omega) _ (by simp)]
  rw [show 256 * (256 * a.toNat + b.toNat) + c.toNat = a.toNat * 65536 + b.toNat * 256 + c.toNat by omega]
end Go.Sym.Tr
/- base64.Encode: lines. -/
namespace Go.Sym.Tr

/-- characters in lines of 76 -/
def ln76 : Nat → List UInt8 → List UInt8
  | 0, _ => []
  | n + 1, s => if 76 < s.length then s.take 76 ++ [13, 10] ++ ln76 n (s.drop 76) else if s = [] then [] else s ++ [13, 10]
theorem ln76_more : ∀ (n m : Nat) (s : List UInt8), s.length < n → s.length < m → ln76 n s = ln76 m s
  | 0, _, _, h, _ => absurd h (by omega)
  | _, 0, _, _, h => absurd h (by omega)
  | n + 1, m + 1, s, h, k => by
    unfold ln76
    by_cases c : 76 < s.length
    · rw [if_pos c, if_pos c, ln76_more n m (s.drop 76) (by simp; omega) (by simp; omega)]
    · rw [if_neg c, if_neg c]
def lines76 (s : List UInt8) : List UInt8 := ln76 (s.length + 1) s
theorem lines76_eq (s : List UInt8) : lines76 s = if 76 < s.length then s.take 76 ++ [13, 10] ++ lines76 (s.drop 76) else if s = [] then [] else s ++ [13, 10] := by
  unfold lines76
  rw [ln76]
  by_cases c : 76 < s.length
  · rw [if_pos c, if_pos c, ln76_more s.length ((s.drop 76).length + 1) (s.drop 76) (by simp; omega) (by omega)]
  · rw [if_neg c, if_neg c]
/-- what comes behind a line of col characters -/
def rest76 (col : Nat) (s : List UInt8) : List UInt8 :=
  if 76 < col + s.length then s.take (76 - col) ++ [13, 10] ++ lines76 (s.drop (76 - col)) else if col = 0 ∧ s = [] then [] else s ++ [13, 10]
theorem rest76_0 (s : List UInt8) : rest76 0 s = lines76 s := by
  unfold rest76
  conv => rhs; rw [lines76_eq]
  simp
theorem rest76_full (s : List UInt8) (h : s ≠ []) : rest76 76 s = [13, 10] ++ rest76 0 s := by
  rw [rest76_0]
  unfold rest76
  have : 0 < s.length := List.length_pos_iff.2 h
  rw [if_pos (by omega)]
  simp
theorem rest76_four (col : Nat) (p0 p1 p2 p3 : UInt8) (s : List UInt8) (h : col + 4 ≤ 76) : rest76 col (p0 :: p1 :: p2 :: p3 :: s) = [p0, p1, p2, p3] ++ rest76 (col + 4) s := by
  unfold rest76
  simp only [List.length_cons]
  by_cases c : 76 < col + 4 + s.length
  · rw [if_pos (by omega), if_pos (by omega)]
    obtain ⟨k, hk⟩ : ∃ k, 76 - col = k + 4 := ⟨76 - col - 4, by omega⟩
    have hk2 : 76 - (col + 4) = k := by omega
    rw [hk, hk2]
    simp [List.take_succ_cons, List.drop_succ_cons]
  · rw [if_neg (show ¬ 76 < col + (s.length + 1 + 1 + 1 + 1) by omega), if_neg c, if_neg (show ¬ (col = 0 ∧ p0 :: p1 :: p2 :: p3 :: s = []) by simp), if_neg (show ¬ (col + 4 = 0 ∧ s = []) by omega)]
    simp
theorem e64_len : ∀ (b : List UInt8), (e64 b).length = 4 * ((b.length + 2) / 3)
  | [] => rfl
  | [_] => by simp [e64]
  | [_, _] => by simp [e64]
  | a :: b :: c :: r => by
    simp only [e64, List.length_cons, e64_len r]; omega
theorem enc_r0 (p0 p1 p2 p3 : UInt8) (col : Nat) (out : List UInt8) (hc : col ≤ 76) (ho : out.length + 6 ≤ rowMax) :
    F_base64_Encode_r0 p0 p1 p2 p3 (col : Int) out = some (if col = 76 then ((4 : Int), out ++ [13, 10] ++ [p0, p1, p2, p3]) else (((col + 4 : Nat) : Int), out ++ [p0, p1, p2, p3])) := by
  unfold F_base64_Encode_r0
  rw [bif_eq]
  by_cases c : col = 76
  · subst c
    rw [if_pos (show ((76 : Nat) : Int) = 76 from rfl), if_pos rfl, bif_dt (by simp; omega), bif_dt (by simp; omega)]
  · rw [if_neg (by omega), if_neg c, bif_dt (by simp; omega), w64_eq (by omega) (by omega)]
    simp
/-- the groups, put out -/
theorem groups_go (fu n : Nat) : ∀ (b : List UInt8) (col : Nat) (out : List UInt8), b.length < n → col ≤ 76 → col % 4 = 0 → out.length + 2 * (e64 b).length + 8 ≤ rowMax →
    ∃ col' : Nat, ∃ out', F_base64_groups_1_p0 fu n b (col : Int) out = some ([], ((col' : Int), out')) ∧ out'.length + 2 ≤ rowMax ∧ out' ++ (if 0 < col' then [13, 10] else []) = out ++ rest76 col (e64 b) := by
  induction n with
  | zero => intro b col out h; exact absurd h (by omega)
  | succ n ih =>
    intro b col out h hc hm ho
    have four : ∀ (k : Nat) (p0 p1 p2 p3 : UInt8) (r : List UInt8), b.drop k = r → e64 b = p0 :: p1 :: p2 :: p3 :: e64 r → r.length < n → F_base64_groups_1_p0 fu (n + 1) b (col : Int) out = put4 (F_base64_groups_1_p0 fu n) k p0 p1 p2 p3 b (col : Int) out →
        ∃ col' : Nat, ∃ out', F_base64_groups_1_p0 fu (n + 1) b (col : Int) out = some ([], ((col' : Int), out')) ∧ out'.length + 2 ≤ rowMax ∧ out' ++ (if 0 < col' then [13, 10] else []) = out ++ rest76 col (e64 b) := by
      intro k p0 p1 p2 p3 r hd he hr hp
      rw [he, List.length_cons, List.length_cons, List.length_cons, List.length_cons] at ho
      rw [hp, he]
      unfold put4
      rw [enc_r0 _ _ _ _ _ _ hc (by omega), Option.bind_some, hd]
      by_cases c : col = 76
      · rw [if_pos c]
        obtain ⟨col', out', h1, h2, h3⟩ := ih r 4 (out ++ [13, 10] ++ [p0, p1, p2, p3]) hr (by omega) (by omega) (by simp; omega)
        refine ⟨col', out', h1, h2, ?_⟩
        rw [h3, c, rest76_full _ (by simp), rest76_four _ _ _ _ _ _ (by omega)]
        simp
      · rw [if_neg c]
        obtain ⟨col', out', h1, h2, h3⟩ := ih r (col + 4) (out ++ [p0, p1, p2, p3]) hr (by omega) (by omega) (by simp; omega)
        refine ⟨col', out', h1, h2, ?_⟩
        rw [h3, rest76_four _ _ _ _ _ _ (by omega)]
        simp
    match b, four with
    | [], _ =>
      refine ⟨col, out, ?_, by omega, ?_⟩
      · rw [F_base64_groups_1_p0, F_base64_groups_1_b0, bif_df (by simp)]
      · unfold rest76
        simp only [e64, List.length_nil]
        rw [if_neg (show ¬ 76 < col + 0 by omega)]
        by_cases c : col = 0
        · subst c; simp
        · rw [if_pos (show 0 < col by omega)]; simp [c]
    | [a], four => exact four 1 (c0 (a.toNat * 65536)) (c1 (a.toNat * 65536)) 61 61 [] rfl (by simp only [e64]) (by simp at h; simp; omega) (by rw [F_base64_groups_1_p0]; exact b0_1 fu _ a _ _)
    | [a, b], four => exact four 2 (c0 (a.toNat * 65536 + b.toNat * 256)) (c1 (a.toNat * 65536 + b.toNat * 256)) (c2 (a.toNat * 65536 + b.toNat * 256)) 61 [] rfl (by simp only [e64]) (by simp at h; simp; omega) (by rw [F_base64_groups_1_p0]; exact b0_2 fu _ a b _ _)
    | a :: b :: c :: r, four => exact four 3 (c0 (a.toNat * 65536 + b.toNat * 256 + c.toNat)) (c1 (a.toNat * 65536 + b.toNat * 256 + c.toNat)) (c2 (a.toNat * 65536 + b.toNat * 256 + c.toNat)) (c3 (a.toNat * 65536 + b.toNat * 256 + c.toNat)) r rfl (by simp only [e64]) (by simp at h; omega) (by rw [F_base64_groups_1_p0]; exact b0_3 fu _ a b c r _ _)
theorem enc64_eq (fu : Nat) (b : List UInt8) (hf : b.length < fu) (hb : b.length ≤ 12000) : F_base64_Encode fu b = some ((0, 0), lines76 (e64 b)) := by
  unfold F_base64_Encode F_base64_groups
  rw [bif_df (by omega), Option.bind_some]
  unfold F_base64_groups_1
  obtain ⟨col', out', h1, h2, h3⟩ := groups_go fu fu b 0 [] hf (by omega) rfl (by rw [e64_len]; simp only [rowMax, List.length_nil]; omega)
  rw [show F_base64_groups_1_p0 fu fu b (0 : Int) [] = some ([], ((col' : Int), out')) from h1, Option.bind_some]
  rw [rest76_0, List.nil_append] at h3
  simp only [F_basic_None, Option.bind_some]
  rw [← h3, bif_d]
  by_cases c : 0 < col'
  · rw [if_pos (show (0 : Int) < (col' : Int) by omega), if_pos c, bif_dt (by simp; omega)]
  · rw [if_neg (show ¬ (0 : Int) < (col' : Int) by omega), if_neg c]; simp
theorem enc64_big (fu : Nat) (b : List UInt8) (hb : 12000 < b.length) : F_base64_Encode fu b = some ((1, -1), []) := by
  unfold F_base64_Encode F_basic_Fault
  rw [bif_dt (by omega)]; rfl
end Go.Sym.Tr
/- The document's base64: bits. -/
namespace Go.Sym.Tr

def nbits (c : UInt8) : List Nat := [c.toNat / 128 % 2, c.toNat / 64 % 2, c.toNat / 32 % 2, c.toNat / 16 % 2, c.toNat / 8 % 2, c.toNat / 4 % 2, c.toNat / 2 % 2, c.toNat % 2]
def bits (b : List UInt8) : List Nat := b.flatMap nbits
abbrev cst (l : List Nat) : List Int := l.map Int.ofNat
theorem bit_eq (x k : Nat) (p : Int) (hp : p = (k : Int)) (hk : k ≤ 30) : Int.tmod (Int.fdiv (x : Int) (2 ^ min p.toNat 64)) 2 = ((x / 2 ^ k % 2 : Nat) : Int) := by
  subst hp
  have e1 : min (k : Int).toNat 64 = k := by omega
  have e2 : Int.fdiv (x : Int) (2 ^ k) = ((x / 2 ^ k : Nat) : Int) := by
    rw [Int.fdiv_eq_ediv_of_nonneg _ (by exact Int.le_of_lt (Int.pow_pos (by decide)))]
    simp
  rw [e1, e2, Int.tmod_eq_emod_of_nonneg (Int.natCast_nonneg _)]
  generalize x / 2 ^ k = y
  omega
def sumN (a : Nat) : List Nat → Nat
  | [] => a
  | x :: l => sumN (2 * a + x) l
theorem sumN_lt : ∀ (l : List Nat) (a : Nat), (∀ x ∈ l, x ≤ 1) → sumN a l + 1 ≤ (a + 1) * 2 ^ l.length
  | [], a, _ => by simp [sumN]
  | x :: l, a, h => by
    have := sumN_lt l (2 * a + x) (fun y hy => h y (List.mem_cons_of_mem _ hy))
    have hx := h x List.mem_cons_self
    unfold sumN
    refine Nat.le_trans this ?_
    rw [List.length_cons, Nat.pow_succ, Nat.mul_comm (2 ^ l.length) 2, ← Nat.mul_assoc]
    exact Nat.mul_le_mul_right _ (by omega)
/-- six bits at a time -/
def ch6 : List Nat → List UInt8
  | a :: b :: c :: d :: e :: f :: r => al (sumN 0 [a, b, c, d, e, f]) :: ch6 r
  | _ => []
theorem take_alpha (k : Nat) (h : k < 64) : List.take ((w64 ((k : Int) + 1)).toNat - (k : Int).toNat) (List.drop (k : Int).toNat alpha) = [al k] := by
  have h' : k < alpha.length := h
  rw [nx_nat _ (by omega)]
  rw [show ((k + 1 : Nat) : Int).toNat - (k : Int).toNat = 1 by omega, show (k : Int).toNat = k by omega]
  have e : al k = alpha[k] := by unfold al; simp [h']
  rw [List.drop_eq_getElem_cons h', e]; rfl
/-- equals signs up to a multiple of four -/
def pad4 (s : List UInt8) : List UInt8 := s ++ List.replicate ((4 - s.length % 4) % 4) 61
/-- zeros up to a multiple of six -/
def pad6 (s : List Nat) : List Nat := s ++ List.replicate ((6 - s.length % 6) % 6) 0
theorem pad6_app (a s : List Nat) (h : a.length % 6 = 0) : pad6 (a ++ s) = a ++ pad6 s := by
  unfold pad6
  have : (a ++ s).length % 6 = s.length % 6 := by simp; omega
  rw [this, List.append_assoc]
theorem pad4_app (p0 p1 p2 p3 : UInt8) (s : List UInt8) : pad4 (p0 :: p1 :: p2 :: p3 :: s) = p0 :: p1 :: p2 :: p3 :: pad4 s := by
  unfold pad4
  have : (p0 :: p1 :: p2 :: p3 :: s).length % 4 = s.length % 4 := by simp; omega
  rw [this]; rfl
theorem n6 (a : Nat) (h : a < 256) : 2 * (2 * (2 * (2 * (2 * (2 * 0 + a / 128 % 2) + a / 64 % 2) + a / 32 % 2) + a / 16 % 2) + a / 8 % 2) + a / 4 % 2 = a / 4 := by omega
theorem n2 (a : Nat) : 2 * (2 * 0 + a / 2 % 2) + a % 2 = a % 4 := by omega
theorem n4 (t b : Nat) (h : b < 256) : 2 * (2 * (2 * (2 * t + b / 128 % 2) + b / 64 % 2) + b / 32 % 2) + b / 16 % 2 = 16 * t + b / 16 := by omega
theorem n4' (b : Nat) : 2 * (2 * (2 * (2 * 0 + b / 8 % 2) + b / 4 % 2) + b / 2 % 2) + b % 2 = b % 16 := by omega
theorem n2' (t c : Nat) (h : c < 256) : 2 * (2 * t + c / 128 % 2) + c / 64 % 2 = 4 * t + c / 64 := by omega
theorem n6' (c : Nat) : 2 * (2 * (2 * (2 * (2 * (2 * 0 + c / 32 % 2) + c / 16 % 2) + c / 8 % 2) + c / 4 % 2) + c / 2 % 2) + c % 2 = c % 64 := by omega
theorem x0 (a b c : Nat) (h : a < 256) (hb : b < 256) (hc : c < 256) : (a * 65536 + b * 256 + c) / 262144 % 64 = a / 4 := by omega
theorem x1 (a b c : Nat) (_h : a < 256) (hb : b < 256) (hc : c < 256) : (a * 65536 + b * 256 + c) / 4096 % 64 = 16 * (a % 4) + b / 16 := by omega
theorem x2 (a b c : Nat) (_h : a < 256) (_hb : b < 256) (hc : c < 256) : (a * 65536 + b * 256 + c) / 64 % 64 = 4 * (b % 16) + c / 64 := by omega
theorem x3 (a b c : Nat) (_h : a < 256) (_hb : b < 256) (_hc : c < 256) : (a * 65536 + b * 256 + c) % 64 = c % 64 := by omega
theorem e64_eq : ∀ (b : List UInt8), pad4 (ch6 (pad6 (bits b))) = e64 b
  | [] => by simp [bits, pad6, ch6, pad4, e64]
  | [a] => by
    have ha : a.toNat < 256 := a.toNat_lt
    have e : pad6 (bits [a]) = nbits a ++ [0, 0, 0, 0] := by simp [bits, pad6, nbits]
    rw [e]
    simp only [nbits, List.cons_append, List.nil_append, ch6, sumN, e64]
    rw [n6 _ ha, n2]
    have k0 := x0 a.toNat 0 0 ha (by omega) (by omega)
    have k1 := x1 a.toNat 0 0 ha (by omega) (by omega)
    simp only [Nat.zero_mul, Nat.add_zero, Nat.zero_div] at k0 k1
    unfold c0 c1
    rw [k0, k1, show 2 * (2 * (2 * (2 * (a.toNat % 4) + 0) + 0) + 0) + 0 = 16 * (a.toNat % 4) by omega]
    rfl
  | [a, b] => by
    have ha : a.toNat < 256 := a.toNat_lt
    have hb : b.toNat < 256 := b.toNat_lt
    have e : pad6 (bits [a, b]) = nbits a ++ nbits b ++ [0, 0] := by simp [bits, pad6, nbits]
    rw [e]
    simp only [nbits, List.cons_append, List.nil_append, ch6, sumN, e64]
    rw [n6 _ ha, n2, n4 _ _ hb, n4']
    have k0 := x0 a.toNat b.toNat 0 ha hb (by omega)
    have k1 := x1 a.toNat b.toNat 0 ha hb (by omega)
    have k2 := x2 a.toNat b.toNat 0 ha hb (by omega)
    simp only [Nat.add_zero, Nat.zero_div] at k0 k1 k2
    unfold c0 c1 c2
    rw [k0, k1, k2, show 2 * (2 * (b.toNat % 16) + 0) + 0 = 4 * (b.toNat % 16) by omega]
    rfl
  | a :: b :: c :: r => by
    have ha : a.toNat < 256 := a.toNat_lt
    have hb : b.toNat < 256 := b.toNat_lt
    have hc : c.toNat < 256 := c.toNat_lt
    have e : bits (a :: b :: c :: r) = (nbits a ++ nbits b ++ nbits c) ++ bits r := by simp [bits]
    rw [e, pad6_app _ _ (by simp [nbits])]
    simp only [nbits, List.cons_append, List.nil_append, ch6, sumN, e64]
    rw [pad4_app, e64_eq r, n6 _ ha, n2, n4 _ _ hb, n4', n2' _ _ hc, n6']
    unfold c0 c1 c2 c3
    rw [x0 _ _ _ ha hb hc, x1 _ _ _ ha hb hc, x2 _ _ _ ha hb hc, x3 _ _ _ ha hb hc]
theorem bits_len (b : List UInt8) : (bits b).length = 8 * b.length := by
  induction b with
  | nil => rfl
  | cons c b ih => rw [show bits (c :: b) = nbits c ++ bits b from rfl, List.length_append, ih]; simp [nbits]; omega
theorem bits_one (b : List UInt8) : ∀ x ∈ bits b, x ≤ 1 := by
  intro x hx
  obtain ⟨c, _, hx⟩ := List.mem_flatMap.1 hx
  simp only [nbits, List.mem_cons, List.not_mem_nil, or_false] at hx
  omega
end Go.Sym.Tr
/- quoted.Encode in plain words. -/
namespace Go.Sym.Tr

theorem byte_all (P : UInt8 → Prop) (h : ∀ n : _root_.Fin 256, P (UInt8.ofNat n.val)) (c : UInt8) : P c := by
  have := h ⟨c.toNat, c.toNat_lt⟩
  simpa using this
/-- the next line begins here -/
def isL : List UInt8 → Bool
  | a :: b :: _ => a == 13 && b == 10
  | _ => false
theorem line_eq (s : List UInt8) : F_quoted_line s = some (isL s) := by
  unfold F_quoted_line
  match s with
  | [] => rfl
  | [_] => rfl
  | a :: b :: r =>
    rw [bif_dt (by simp; omega), show idx (a :: b :: r) 0 = some a from rfl, show idx (a :: b :: r) 1 = some b from rfl]
    simp only [Option.bind_some, isL]
    cases a == 13 <;> rfl
/-- how a byte is written -/
def sgn (c : UInt8) (e : Bool) : List UInt8 := (F_quoted_sign_p0 c e).getD []
set_option maxRecDepth 100000 in
theorem sgn_all : ∀ n : _root_.Fin 256, ∀ e : Bool, F_quoted_sign_p0 (UInt8.ofNat n.val) e = some (sgn (UInt8.ofNat n.val) e) ∧ ((sgn (UInt8.ofNat n.val) e).length = 1 ∨ (sgn (UInt8.ofNat n.val) e).length = 3) := by decide +kernel
theorem sgn_eq (c : UInt8) (e : Bool) : F_quoted_sign_p0 c e = some (sgn c e) := (byte_all (fun c => ∀ e, F_quoted_sign_p0 c e = some (sgn c e) ∧ ((sgn c e).length = 1 ∨ (sgn c e).length = 3)) sgn_all c e).1
theorem sgn_len (c : UInt8) (e : Bool) : (sgn c e).length = 1 ∨ (sgn c e).length = 3 := (byte_all (fun c => ∀ e, F_quoted_sign_p0 c e = some (sgn c e) ∧ ((sgn c e).length = 1 ∨ (sgn c e).length = 3)) sgn_all c e).2
/-- a line ends here -/
def endB (r : List UInt8) : Bool := r.isEmpty || isL r
theorem sign_eq (c : UInt8) (r : List UInt8) : F_quoted_sign c r = some (sgn c (endB r)) := by
  unfold F_quoted_sign
  cases r with
  | nil => exact sgn_eq c true
  | cons x r =>
    rw [bif_f (by simp; omega), line_eq, Option.bind_some, sgn_eq]; rfl
/-- the encoding, in a line of col bytes -/
def qe (col : Nat) : List UInt8 → List UInt8
  | [] => []
  | [c] => (if 76 < col + (sgn c true).length then [61, 13, 10] else []) ++ sgn c true
  | c :: d :: r => if c = 13 ∧ d = 10 then 13 :: 10 :: qe 0 r else
      if (if isL (d :: r) then 76 else 75) < col + (sgn c (isL (d :: r))).length then [61, 13, 10] ++ sgn c (isL (d :: r)) ++ qe (sgn c (isL (d :: r))).length (d :: r)
      else sgn c (isL (d :: r)) ++ qe (col + (sgn c (isL (d :: r))).length) (d :: r)
theorem enc_p3 (fu : Nat) (r0 : List UInt8 → Int → Int → (Int × Int) → List UInt8 → Option ((Int × Int) × List UInt8)) (s0 : List UInt8) (col i : Nat) (m16 : Int × Int) (out u : List UInt8) (hc : col ≤ 1000) (hi : i < 1000000000) (ho : out.length + u.length ≤ rowMax) (hu : u.length ≤ 10) :
    F_quoted_Encode_p3 fu r0 s0 (col : Int) (i : Int) m16 out u = r0 s0 ((col + u.length : Nat) : Int) ((i + 1 : Nat) : Int) m16 (out ++ u) := by
  unfold F_quoted_Encode_p3
  rw [bif_dt (by simp; omega), nx_nat _ (by omega)]
  have : w64 ((col : Int) + (u.length : Int)) = ((col + u.length : Nat) : Int) := by rw [w64_eq (by omega) (by omega)]; omega
  rw [this]
theorem enc_p2 (fu : Nat) (r0 : List UInt8 → Int → Int → (Int × Int) → List UInt8 → Option ((Int × Int) × List UInt8)) (s0 : List UInt8) (col i most : Nat) (m16 : Int × Int) (out u : List UInt8) (hc : col ≤ 900) (hi : i < 1000000000) (ho : out.length + u.length + 3 ≤ rowMax) (hu : u.length ≤ 10) :
    F_quoted_Encode_p2 fu r0 s0 (col : Int) (i : Int) (most : Int) m16 out u =
      if most < col + u.length then r0 s0 (u.length : Int) ((i + 1 : Nat) : Int) m16 (out ++ [61, 13, 10] ++ u) else r0 s0 ((col + u.length : Nat) : Int) ((i + 1 : Nat) : Int) m16 (out ++ u) := by
  unfold F_quoted_Encode_p2
  have : w64 ((col : Int) + (u.length : Int)) = ((col + u.length : Nat) : Int) := by rw [w64_eq (by omega) (by omega)]; omega
  rw [this, bif_d]
  by_cases c : most < col + u.length
  · rw [if_pos (show (most : Int) < ((col + u.length : Nat) : Int) by omega), if_pos c, bif_dt (by simp; omega)]
    have := enc_p3 fu r0 s0 0 i m16 (out ++ [61, 13, 10]) u (by omega) hi (by simp; omega) hu
    rw [Nat.zero_add] at this
    exact this
  · rw [if_neg (show ¬ (most : Int) < ((col + u.length : Nat) : Int) by omega), if_neg c]
    exact enc_p3 fu r0 s0 col i m16 out u (by omega) hi (by omega) hu
theorem drop_mid {α : Type} (pre : List α) (suf : List α) : List.drop ((pre.length : Nat) : Int).toNat (pre ++ suf) = suf := by simp
theorem drop_mid1 {α : Type} (pre : List α) (c : α) (suf : List α) : List.drop ((pre.length + 1 : Nat) : Int).toNat (pre ++ c :: suf) = suf := by
  rw [show ((pre.length + 1 : Nat) : Int).toNat = (pre ++ [c]).length by simp, show pre ++ c :: suf = (pre ++ [c]) ++ suf by simp]
  simp
theorem qenc_go (fu n : Nat) (m16 : Int × Int) : ∀ (pre suf : List UInt8) (col : Nat) (out : List UInt8), suf.length < n → pre.length + suf.length < 100000000 → col ≤ 80 → out.length + 8 * suf.length ≤ 1000000000 →
    F_quoted_Encode_p0 fu n (pre ++ suf) (col : Int) (pre.length : Int) m16 out = some ((0, 0), out ++ qe col suf) := by
  induction n with
  | zero => intro pre suf col out h; exact absurd h (by omega)
  | succ n ih =>
    intro pre suf col out h hb hc ho
    cases suf with
    | nil =>
      rw [F_quoted_Encode_p0, F_quoted_Encode_b0, bif_df (by simp)]
      simp [F_basic_None, qe]
    | cons c suf =>
      simp only [List.length_cons] at h hb ho
      rw [F_quoted_Encode_p0, F_quoted_Encode_b0, bif_dt (by simp; omega), bif_dt (by simp; omega), drop_mid, line_eq, Option.bind_some, nx_nat _ (by omega)]
      have step : ∀ (col' : Nat) (u : List UInt8) , col' ≤ 80 → u.length ≤ 8 → F_quoted_Encode_p0 fu n (pre ++ c :: suf) (col' : Int) ((pre.length + 1 : Nat) : Int) m16 (out ++ u) = some ((0, 0), out ++ u ++ qe col' suf) := by
        intro col' u h1 h2
        have := ih (pre ++ [c]) suf col' (out ++ u) (by omega) (by simp; omega) h1 (by simp; omega)
        simpa using this
      have hlen := sgn_len c (endB suf)
      cases suf with
      | nil =>
        rw [bif_f (show isL [c] = false from rfl), bif_dt (by simp; omega), idx_mid, Option.bind_some, drop_mid1, sign_eq, Option.bind_some, bif_df (by simp)]
        unfold F_quoted_Encode_p1
        rw [bif_f rfl, show (76 : Int) = ((76 : Nat) : Int) from rfl, enc_p2 fu _ _ col pre.length 76 m16 out _ (by omega) (by omega) (by simp only [rowMax]; omega) (by omega)]
        simp only [qe]
        have e : endB ([] : List UInt8) = true := rfl
        rw [e] at hlen ⊢
        by_cases k : 76 < col + (sgn c true).length
        · rw [if_pos k, if_pos k]
          have := step (sgn c true).length ([61, 13, 10] ++ sgn c true) (by omega) (by simp; omega)
          simpa [qe] using this
        · rw [if_neg k, if_neg k]
          have := step (col + (sgn c true).length) (sgn c true) (by omega) (by omega)
          simpa [qe] using this
      | cons d r =>
        simp only [List.length_cons] at h hb ho
        by_cases k : c = 13 ∧ d = 10
        · rw [bif_t (show isL (c :: d :: r) = true by simp [isL, k]), bif_dt (by simp [rowMax]; omega), nx_nat _ (by omega)]
          have := ih (pre ++ [c, d]) r 0 (out ++ [13, 10]) (by omega) (by simp; omega) (by omega) (by simp; omega)
          simp only [List.length_append, List.length_cons, List.length_nil, Nat.zero_add, List.append_assoc, List.cons_append, List.nil_append] at this
          simp only [qe]
          rw [if_pos k]
          simpa [Int.add_assoc] using this
        · have hk : isL (c :: d :: r) = false := by
            simp only [isL]
            by_cases k1 : c = 13
            · have : d ≠ 10 := fun q => k ⟨k1, q⟩
              simp [this]
            · simp [k1]
          rw [bif_f hk, bif_dt (by simp; omega), idx_mid, Option.bind_some, drop_mid1, sign_eq, Option.bind_some, bif_dt (by simp <;> omega), line_eq, Option.bind_some]
          have e : endB (d :: r) = isL (d :: r) := rfl
          rw [e] at hlen ⊢
          unfold F_quoted_Encode_p1
          simp only [qe]
          rw [if_neg k]
          have fin : ∀ most : Nat, most ≤ 76 → (if most < col + (sgn c (isL (d :: r))).length then F_quoted_Encode_p0 fu n (pre ++ c :: d :: r) ((sgn c (isL (d :: r))).length : Int) ((pre.length + 1 : Nat) : Int) m16 (out ++ [61, 13, 10] ++ sgn c (isL (d :: r))) else F_quoted_Encode_p0 fu n (pre ++ c :: d :: r) ((col + (sgn c (isL (d :: r))).length : Nat) : Int) ((pre.length + 1 : Nat) : Int) m16 (out ++ sgn c (isL (d :: r)))) = some ((0, 0), out ++ (if most < col + (sgn c (isL (d :: r))).length then [61, 13, 10] ++ sgn c (isL (d :: r)) ++ qe (sgn c (isL (d :: r))).length (d :: r) else sgn c (isL (d :: r)) ++ qe (col + (sgn c (isL (d :: r))).length) (d :: r))) := by
            intro most hmost
            by_cases q : most < col + (sgn c (isL (d :: r))).length
            · rw [if_pos q, if_pos q]
              have := step (sgn c (isL (d :: r))).length ([61, 13, 10] ++ sgn c (isL (d :: r))) (by omega) (by simp; omega)
              simpa using this
            · rw [if_neg q, if_neg q]
              have := step (col + (sgn c (isL (d :: r))).length) (sgn c (isL (d :: r))) (by omega) (by omega)
              simpa using this
          cases hl : isL (d :: r)
          · rw [bif_t (show (!false) = true from rfl), show (75 : Int) = ((75 : Nat) : Int) from rfl, enc_p2 fu _ _ col pre.length 75 m16 out _ (by omega) (by omega) (by rw [hl] at hlen; simp only [rowMax]; omega) (by rw [hl] at hlen; omega)]
            have := fin 75 (by omega)
            rw [hl] at this
            simpa using this
          · rw [bif_f (show (!true) = false from rfl), show (76 : Int) = ((76 : Nat) : Int) from rfl, enc_p2 fu _ _ col pre.length 76 m16 out _ (by omega) (by omega) (by rw [hl] at hlen; simp only [rowMax]; omega) (by rw [hl] at hlen; omega)]
            have := fin 76 (by omega)
            rw [hl] at this
            simpa using this
end Go.Sym.Tr
/- The document's quoted-printable: lines of units. -/
namespace Go.Sym.Tr

theorem qenc_eq (fu : Nat) (b : List UInt8) (hf : b.length < fu) (hb : b.length ≤ 12000) : F_quoted_Encode fu b = some ((0, 0), qe 0 b) := by
  unfold F_quoted_Encode
  rw [bif_df (by omega)]
  have := qenc_go fu fu (0, 0) [] b 0 [] hf (by simp; omega) (by omega) (by simp; omega)
  exact this
theorem qenc_big (fu : Nat) (b : List UInt8) (hb : 12000 < b.length) : F_quoted_Encode fu b = some ((1, -1), []) := by
  unfold F_quoted_Encode F_basic_Fault
  rw [bif_dt (by omega)]; rfl
def inB (c : UInt8) : Bool := decide ((33 : Int) ≤ (c.toNat : Int) ∧ (c.toNat : Int) ≤ 126)
def blB (c : UInt8) : Bool := bif c == 32 then true else c == 9
def flagB (c : UInt8) (last : Bool) : Bool := bif inB c then (bif c != 61 then true else bif blB c then !last else false) else bif blB c then !last else false
/-- the units of a line -/
def un : List UInt8 → List (List UInt8)
  | [] => []
  | c :: r => sgn c r.isEmpty :: un r
/-- the units, in lines -/
def qu (col : Nat) : List (List UInt8) → List UInt8
  | [] => []
  | [u] => (if 76 < col + u.length then [61, 13, 10] else []) ++ u
  | u :: v :: us => if 75 < col + u.length then [61, 13, 10] ++ u ++ qu u.length (v :: us) else u ++ qu (col + u.length) (v :: us)
/-- behind the units of a line -/
def lineEnd (r0 : List UInt8 → List UInt8 → Int → Option (List UInt8)) (s0 : List UInt8) (s5 : Int) (s3 : List UInt8) : Option (List UInt8) :=
  bif s5 == (List.length s0 : Int) then
    bif decide (List.length s3 ≤ maxLen) then some s3 else none
  else
    bif decide (List.length s3 + List.length ([13, 10] : List UInt8) ≤ strMax) then r0 s0 (s3 ++ ([13, 10] : List UInt8)) (w64 (s5 + (2 : Int))) else none
end Go.Sym.Tr
/- The document's quoted-printable is the program's. -/
namespace Go.Sym.Tr

/-- a line and what comes behind it -/
def sp : List UInt8 → List UInt8 × List UInt8
  | [] => ([], [])
  | c :: r => if isL (c :: r) then ([], c :: r) else (c :: (sp r).1, (sp r).2)
theorem sp_app : ∀ s : List UInt8, (sp s).1 ++ (sp s).2 = s
  | [] => rfl
  | c :: r => by
    unfold sp
    cases h : isL (c :: r)
    · simp [sp_app r]
    · simp
theorem sp_tail : ∀ s : List UInt8, (sp s).2 = [] ∨ ∃ r, (sp s).2 = 13 :: 10 :: r
  | [] => .inl rfl
  | c :: r => by
    unfold sp
    cases h : isL (c :: r)
    · simpa using sp_tail r
    · right
      cases r with
      | nil => cases h
      | cons d r =>
        simp only [isL, Bool.and_eq_true, beq_iff_eq] at h
        obtain ⟨rfl, rfl⟩ := h
        exact ⟨r, by simp⟩
/-- what comes behind a line -/
def tl : List UInt8 → List UInt8
  | _ :: _ :: r => 13 :: 10 :: qe 0 r
  | _ => []
theorem sp_empty (d : UInt8) (r : List UInt8) : (sp (d :: r)).1.isEmpty = isL (d :: r) := by
  unfold sp
  cases isL (d :: r) <;> rfl
theorem qe_sp : ∀ (s : List UInt8) (col : Nat), qe col s = qu col (un (sp s).1) ++ tl (sp s).2
  | [], col => rfl
  | [c], col => by
    have e : sp [c] = ([c], []) := by simp [sp, isL]
    rw [e]
    simp [un, qu, tl, qe]
  | c :: d :: r, col => by
    have ih := qe_sp (d :: r)
    by_cases k : c = 13 ∧ d = 10
    · have e : sp (c :: d :: r) = ([], c :: d :: r) := by
        unfold sp; rw [if_pos (by simp [isL, k])]
      rw [e]
      simp only [qe, un, qu, tl]
      rw [if_pos k]; rfl
    · have hk : isL (c :: d :: r) = false := by
        simp only [isL]
        by_cases k1 : c = 13
        · have : d ≠ 10 := fun q => k ⟨k1, q⟩
          simp [this]
        · simp [k1]
      have e : sp (c :: d :: r) = (c :: (sp (d :: r)).1, (sp (d :: r)).2) := by
        rw [sp, if_neg (by rw [hk]; simp)]
      rw [e]
      simp only [qe]
      rw [if_neg k, un, sp_empty]
      cases hl : isL (d :: r)
      · have ne : (sp (d :: r)).1 ≠ [] := by
          intro q
          have := sp_empty d r
          rw [q, hl] at this
          cases this
        rw [ih (sgn c false).length, ih (col + (sgn c false).length)]
        cases hu : un (sp (d :: r)).1 with
        | nil =>
          exfalso
          cases hx : (sp (d :: r)).1 with
          | nil => exact ne hx
          | cons y ys => rw [hx] at hu; simp [un] at hu
        | cons v us =>
          simp only [qu]
          by_cases q : 75 < col + (sgn c false).length
          · simp [q]
          · simp [q]
      · have em : (sp (d :: r)).1 = [] := by
          have := sp_empty d r
          rw [hl] at this
          simpa using this
        rw [ih (sgn c true).length, ih (col + (sgn c true).length), em]
        simp only [un, qu]
        by_cases q : 76 < col + (sgn c true).length
        · simp [q]
        · simp [q]
theorem un_len : ∀ (s : List UInt8), (un s).length = s.length
  | [] => rfl
  | c :: r => by simp [un, un_len r]
theorem un_small : ∀ (s : List UInt8), ∀ u ∈ un s, u.length ≤ 8
  | [], u, h => by cases h
  | c :: r, u, h => by
    unfold un at h
    rcases List.mem_cons.1 h with rfl | h
    · have := sgn_len c r.isEmpty; omega
    · exact un_small r u h
theorem un_three : ∀ (s : List UInt8), ∀ u ∈ un s, u.length ≤ 3
  | [], u, h => by cases h
  | c :: r, u, h => by
    unfold un at h
    rcases List.mem_cons.1 h with rfl | h
    · have := sgn_len c r.isEmpty; omega
    · exact un_three r u h
theorem qu_len : ∀ (us : List (List UInt8)) (col : Nat), (∀ u ∈ us, u.length ≤ 3) → (qu col us).length ≤ 6 * us.length
  | [], _, _ => by simp [qu]
  | [u], col, h => by
    have := h u List.mem_cons_self
    simp only [qu]
    split <;> simp <;> omega
  | u :: v :: us, col, h => by
    have h1 := h u List.mem_cons_self
    have a := qu_len (v :: us) u.length (fun x hx => h x (List.mem_cons_of_mem _ hx))
    have b := qu_len (v :: us) (col + u.length) (fun x hx => h x (List.mem_cons_of_mem _ hx))
    simp only [List.length_cons] at a b
    simp only [qu]
    split <;> simp <;> omega
end Go.Sym.Tr
/- The laws of transfer.Encode and transfer.Choose, in plain words. -/
namespace Go.Sym.Tr

theorem cod_cases (s : List UInt8) : cod s = 0 ∨ cod s = 1 ∨ cod s = 2 ∨ cod s = 3 ∨ cod s = -1 := by
  unfold cod
  split
  · exact .inl rfl
  · split
    · exact .inr (.inl rfl)
    · split
      · exact .inr (.inr (.inl rfl))
      · split
        · exact .inr (.inr (.inr (.inl rfl)))
        · exact .inr (.inr (.inr (.inr rfl)))
/-- what transfer.Encode hands back -/
def encR (b name : List UInt8) : (Int × Int) × List UInt8 :=
  if cod name = -1 then ((18, -3), []) else if 12000 < b.length then ((1, -1), []) else
  if cod name = 0 then (if 0 ≤ refd b false then ((17, refd b false), []) else ((0, 0), b)) else
  if cod name = 1 then (if 0 ≤ refd b true then ((17, refd b true), []) else ((0, 0), b)) else
  if cod name = 2 then ((0, 0), lines76 (e64 b)) else ((0, 0), qe 0 b)
theorem copied_eq (b : List UInt8) (h : b.length ≤ 12000) : F_transfer_copied b = some ((0, 0), b) := by
  unfold F_transfer_copied F_basic_None
  rw [bif_dt (by simp only [rowMax]; omega)]; rfl
theorem plainE_eq (fu : Nat) (b : List UInt8) (e : Bool) (hf : 12000 < fu) (h : b.length ≤ 12000) : (F_transfer_plain_1 fu b (if e then 255 else 127)).bind (fun x => some (x.1, x.2.2)) = some (if 0 ≤ refd b e then ((17, refd b e), []) else ((0, 0), b)) := by
  unfold F_transfer_plain_1 F_basic_Fault
  rw [wrong_is fu b e (by omega) (by omega), Option.bind_some, copied_eq b h, bif_d]
  split <;> rfl
theorem encode_eq (fu : Nat) (b name : List UInt8) (hf : 100000 + name.length < fu) (hn : name.length ≤ maxLen) : F_transfer_Encode fu b name = some (encR b name) := by
  unfold F_transfer_Encode F_transfer_valid
  rw [find_eq fu name (by omega) (by omega) hn]
  simp only [Option.bind_some, F_basic_Fault, F_basic_None, F_basic_Failed]
  unfold encR
  rcases cod_cases name with h | h | h | h | h <;> rw [h]
  · by_cases hl : 12000 < b.length
    · have hi : (12000 : Int) < (b.length : Int) := by omega
      simp [sumK, hl, hi]
    · have hi : ¬ (12000 : Int) < (b.length : Int) := by omega
      have := plainE_eq fu b false (by omega) (by omega)
      simp [sumK, hl, hi] at this ⊢
      exact this
  · by_cases hl : 12000 < b.length
    · have hi : (12000 : Int) < (b.length : Int) := by omega
      simp [sumK, hl, hi]
    · have hi : ¬ (12000 : Int) < (b.length : Int) := by omega
      have := plainE_eq fu b true (by omega) (by omega)
      simp [sumK, hl, hi] at this ⊢
      exact this
  · by_cases hl : 12000 < b.length
    · have hi : (12000 : Int) < (b.length : Int) := by omega
      simp [sumK, hl, hi]
    · have hi : ¬ (12000 : Int) < (b.length : Int) := by omega
      simp [sumK, hl, hi, enc64_eq fu b (by omega) (by omega)]
  · by_cases hl : 12000 < b.length
    · have hi : (12000 : Int) < (b.length : Int) := by omega
      simp [sumK, hl, hi]
    · have hi : ¬ (12000 : Int) < (b.length : Int) := by omega
      simp [sumK, hl, hi, qenc_eq fu b (by omega) (by omega)]
  · simp [sumK]
theorem at_eq (a b : Int) : F_R1_At a b = some (a, b) := rfl
end Go.Sym.Tr
/- base64, decoded: bits. -/
namespace Go.Sym.Tr

def v64 (c : UInt8) : Int := Lib.indexByte alpha c
set_option maxRecDepth 100000 in
theorem v64_all : ∀ n : _root_.Fin 256, v64 (UInt8.ofNat n.val) = -1 ∨ (0 ≤ v64 (UInt8.ofNat n.val) ∧ v64 (UInt8.ofNat n.val) < 64) := by decide +kernel
theorem v64_rng (c : UInt8) : v64 c = -1 ∨ (0 ≤ v64 c ∧ v64 c < 64) := byte_all (fun c => v64 c = -1 ∨ (0 ≤ v64 c ∧ v64 c < 64)) v64_all c
/-- six bits of a number -/
def six (v : Nat) : List Nat := [v / 32 % 2, v / 16 % 2, v / 8 % 2, v / 4 % 2, v / 2 % 2, v % 2]
/-- the bits of characters up to an equals sign -/
def dbits : List UInt8 → List Nat
  | [] => []
  | c :: r => if c = 61 then [] else if v64 c < 0 then dbits r else six (v64 c).toNat ++ dbits r
/-- eight bits at a time -/
def by8 : List Nat → List UInt8
  | a :: b :: c :: d :: e :: f :: g :: h :: r => toU8 ((sumN 0 [a, b, c, d, e, f, g, h] : Nat) : Int) :: by8 r
  | _ => []
theorem sumN_lin : ∀ (l : List Nat) (a : Nat), sumN a l = a * 2 ^ l.length + sumN 0 l
  | [], a => by simp [sumN]
  | x :: l, a => by
    rw [sumN, sumN, sumN_lin l (2 * a + x), sumN_lin l (2 * 0 + x), List.length_cons, Nat.pow_succ, Nat.add_mul, Nat.add_mul]
    have : 2 * a * 2 ^ l.length = a * (2 ^ l.length * 2) := by rw [Nat.mul_comm 2 a, Nat.mul_assoc, Nat.mul_comm 2]
    omega
theorem sumN_app : ∀ (l m : List Nat) (a : Nat), sumN a (l ++ m) = sumN (sumN a l) m
  | [], _, _ => rfl
  | x :: l, m, a => sumN_app l m (2 * a + x)
theorem six_sum (a v : Nat) (h : v < 64) : sumN a (six v) = 64 * a + v := by
  simp only [six, sumN]; omega
theorem six_one (v : Nat) : ∀ x ∈ six v, x ≤ 1 := by
  intro x hx
  simp only [six, List.mem_cons, List.not_mem_nil, or_false] at hx
  omega
theorem by8_app (q r : List Nat) (h : 8 ≤ q.length) : by8 (q ++ r) = toU8 ((sumN 0 (q.take 8) : Nat) : Int) :: by8 (q.drop 8 ++ r) := by
  match q, h with
  | a :: b :: c :: d :: e :: f :: g :: i :: t, _ => simp [by8]
theorem by8_short (q : List Nat) (h : q.length < 8) : by8 q = [] := by
  match q, h with
  | [], _ => rfl
  | [_], _ => rfl
  | [_, _], _ => rfl
  | [_, _, _], _ => rfl
  | [_, _, _, _], _ => rfl
  | [_, _, _, _, _], _ => rfl
  | [_, _, _, _, _, _], _ => rfl
  | [_, _, _, _, _, _, _], _ => rfl
  | _ :: _ :: _ :: _ :: _ :: _ :: _ :: _ :: _, h => simp at h; omega
theorem or6 (x v : Nat) (h : x < 1099511627776) (hv : v < 64) : w64 (((BitVec.ofInt 64 (w64 ((x : Int) * 2 ^ min (6 : Int).toNat 64)) ||| BitVec.ofInt 64 (v : Int)).toNat : Int)) = ((64 * x + v : Nat) : Int) := by
  have e : w64 ((x : Int) * 2 ^ min (6 : Int).toNat 64) = ((64 * x : Nat) : Int) := by
    rw [show (2 : Int) ^ min (6 : Int).toNat 64 = 64 by decide, w64_eq (by omega) (by omega)]; omega
  rw [e, BitVec.toNat_or, ofInt_nat _ (by omega), ofInt_nat _ (by omega)]
  have := Nat.two_pow_add_eq_or_of_lt (i := 6) (b := v) (by simpa using hv) x
  rw [← show 2 ^ 6 * x + v = 64 * x ||| v from this]
  rw [w64_eq (by omega) (by omega)]
theorem andm (x k : Nat) (h : x < 1099511627776) (hk : k ≤ 20) : w64 (((BitVec.ofInt 64 (x : Int) &&& BitVec.ofInt 64 (w64 ((w64 ((1 : Int) * 2 ^ min (k : Int).toNat 64)) - (1 : Int)))).toNat : Int)) = ((x % 2 ^ k : Nat) : Int) := by
  have e1 : min (k : Int).toNat 64 = k := by omega
  have hp : 2 ^ k ≤ 2 ^ 20 := Nat.pow_le_pow_right (by omega) hk
  have hp1 : 1 ≤ 2 ^ k := Nat.one_le_two_pow
  have e2 : w64 ((1 : Int) * 2 ^ k) = ((2 ^ k : Nat) : Int) := by
    have : ((2 : Int) ^ k) = ((2 ^ k : Nat) : Int) := by simp
    rw [this, w64_eq (by omega) (by omega)]; omega
  have e3 : w64 (((2 ^ k : Nat) : Int) - 1) = ((2 ^ k - 1 : Nat) : Int) := by rw [w64_eq (by omega) (by omega)]; omega
  have hm : x % 2 ^ k ≤ x := Nat.mod_le _ _
  rw [e1, e2, e3, BitVec.toNat_and, ofInt_nat _ (by omega), ofInt_nat _ (by omega), Nat.and_two_pow_sub_one_eq_mod, w64_eq (by omega) (by omega)]
end Go.Sym.Tr
/- base64.Lenient in plain words. -/
namespace Go.Sym.Tr

theorem sumN_split (q : List Nat) (k : Nat) (h1 : ∀ x ∈ q, x ≤ 1) : sumN 0 (q.take k) = sumN 0 q / 2 ^ (q.length - k) ∧ sumN 0 (q.drop k) = sumN 0 q % 2 ^ (q.length - k) := by
  have e : sumN 0 q = sumN 0 (q.take k) * 2 ^ (q.drop k).length + sumN 0 (q.drop k) := by
    rw [← sumN_lin, ← sumN_app, List.take_append_drop]
  have hd := sumN_lt (q.drop k) 0 (fun x hx => h1 x (List.mem_of_mem_drop hx))
  rw [List.length_drop] at e hd
  have hlt : sumN 0 (q.drop k) < 2 ^ (q.length - k) := by omega
  rw [e, Nat.mul_comm, Nat.mul_add_div (by omega), Nat.mul_add_mod, Nat.div_eq_of_lt hlt, Nat.mod_eq_of_lt hlt]
  simp
theorem lenient_go (fu n : Nat) (m16 : Int × Int) : ∀ (pre suf : List UInt8) (p : List Nat) (out : List UInt8), suf.length < n → pre.length + suf.length < 100000000 → p.length < 8 → (∀ x ∈ p, x ≤ 1) → out.length + suf.length ≤ 1000000000 →
    F_base64_Lenient_p0 fu n ((sumN 0 p : Nat) : Int) (p.length : Int) (pre ++ suf) ((pre.length + suf.length : Nat) : Int) (pre.length : Int) m16 out = some ((0, 0), out ++ by8 (p ++ dbits suf)) := by
  induction n with
  | zero => intro pre suf p out h; exact absurd h (by omega)
  | succ n ih =>
    intro pre suf p out h hb hp h1 ho
    cases suf with
    | nil =>
      rw [F_base64_Lenient_p0, F_base64_Lenient_b0, bif_df (by simp)]
      simp [F_basic_None, dbits, by8_short p hp]
    | cons c suf =>
      simp only [List.length_cons] at h hb ho
      have nxt : ∀ (p : List Nat) (out : List UInt8), p.length < 8 → (∀ x ∈ p, x ≤ 1) → out.length + suf.length ≤ 1000000000 → F_base64_Lenient_p0 fu n ((sumN 0 p : Nat) : Int) (p.length : Int) (pre ++ c :: suf) ((pre.length + (suf.length + 1) : Nat) : Int) ((pre.length + 1 : Nat) : Int) m16 out = some ((0, 0), out ++ by8 (p ++ dbits suf)) := by
        intro p out h2 h3 h4
        have := ih (pre ++ [c]) suf p out (by omega) (by simp; omega) h2 h3 h4
        simp only [List.length_append, List.length_cons, List.length_nil, Nat.zero_add, List.append_assoc, List.cons_append, List.nil_append] at this
        rw [show pre.length + (suf.length + 1) = pre.length + 1 + suf.length by omega]
        exact this
      rw [F_base64_Lenient_p0, F_base64_Lenient_b0, bif_dt (by simp; omega), idx_mid, Option.bind_some, bif_eq8]
      simp only [List.length_cons]
      by_cases k : c = 61
      · rw [if_pos k]; simp [F_basic_None, dbits, k, by8_short p hp]
      · rw [if_neg k, bif_dt (by decide)]
        rw [show ([65, 66, 67, 68, 69, 70, 71, 72, 73, 74, 75, 76, 77, 78, 79, 80, 81, 82, 83, 84, 85, 86, 87, 88, 89, 90, 97, 98, 99, 100, 101, 102, 103, 104, 105, 106, 107, 108, 109, 110, 111, 112, 113, 114, 115, 116, 117, 118, 119, 120, 121, 122, 48, 49, 50, 51, 52, 53, 54, 55, 56, 57, 43, 47] : List UInt8) = alpha from rfl, show F_bytes_IndexByte alpha c = some (v64 c) from rfl, Option.bind_some, nx_nat _ (by omega), bif_d]
        rcases v64_rng c with hv | ⟨hv, hv2⟩
        · rw [hv, if_pos (by decide), nxt p out hp h1 (by omega)]
          simp [dbits, k, hv]
        · obtain ⟨v, hvv⟩ : ∃ v : Nat, v64 c = (v : Int) := ⟨(v64 c).toNat, by omega⟩
          have hv64 : v < 64 := by omega
          have hd : dbits (c :: suf) = six v ++ dbits suf := by
            rw [dbits, if_neg k, if_neg (by omega), hvv]; rfl
          have hq : sumN 0 (p ++ six v) = 64 * sumN 0 p + v := by rw [sumN_app, six_sum _ _ hv64]
          have hpl := sumN_lt p 0 h1
          have hp2 : 2 ^ p.length ≤ 2 ^ 7 := Nat.pow_le_pow_right (by omega) (by omega)
          have hql : (p ++ six v).length = p.length + 6 := by simp [six]
          have hq1 : ∀ x ∈ p ++ six v, x ≤ 1 := fun x hx => by
            rcases List.mem_append.1 hx with hx | hx
            · exact h1 x hx
            · exact six_one v x hx
          rw [hvv, if_neg (by omega), or6 _ _ (by omega) hv64, ← hq, hd, ← List.append_assoc]
          have e6 : w64 ((p.length : Int) + 6) = ((p.length + 6 : Nat) : Int) := by rw [w64_eq (by omega) (by omega)]; omega
          rw [e6, bif_d]
          by_cases h8 : 8 ≤ p.length + 6
          · have e8 : w64 (((p.length + 6 : Nat) : Int) - 8) = ((p.length + 6 - 8 : Nat) : Int) := by rw [w64_eq (by omega) (by omega)]; omega
            rw [if_pos (by omega), e8, bif_dt (by omega), bif_dt (by simp [rowMax]; omega), bif_dt (by omega)]
            rw [andm _ _ (by omega) (by omega)]
            obtain ⟨s1, s2⟩ := sumN_split (p ++ six v) 8 hq1
            rw [hql] at s1 s2
            rw [← s2, by8_app _ _ (by omega)]
            have e9 : Int.fdiv ((sumN 0 (p ++ six v) : Nat) : Int) (2 ^ min (((p.length + 6 - 8 : Nat) : Int)).toNat 64) = ((sumN 0 ((p ++ six v).take 8) : Nat) : Int) := by
              rw [s1, show min (((p.length + 6 - 8 : Nat) : Int)).toNat 64 = p.length + 6 - 8 by omega, Int.fdiv_eq_ediv_of_nonneg _ (by exact Int.le_of_lt (Int.pow_pos (by decide)))]
              simp
            rw [e9]
            have := nxt ((p ++ six v).drop 8) (out ++ [toU8 ((sumN 0 ((p ++ six v).take 8) : Nat) : Int)]) (by simp [six]; omega) (fun x hx => hq1 x (List.mem_of_mem_drop hx)) (by simp; omega)
            rw [List.length_drop, hql] at this
            rw [this]; simp
          · rw [if_neg (by omega)]
            have := nxt (p ++ six v) out (by omega) hq1 (by omega)
            rw [hql] at this
            exact this
end Go.Sym.Tr
/- The document's Loose64 in plain words. -/
namespace Go.Sym.Tr

end Go.Sym.Tr
/- The document's Loose64: its loops. -/
namespace Go.Sym.Tr

end Go.Sym.Tr
/- The document's Loose64 is the program's. -/
namespace Go.Sym.Tr

end Go.Sym.Tr
/- base64, decoded: the program and the document. -/
namespace Go.Sym.Tr
theorem lenient_eq (fu : Nat) (b : List UInt8) (hb : b.length ≤ 24000) (hf : b.length < fu) : F_base64_Lenient fu b = some ((0, 0), by8 (dbits b)) := by
  unfold F_base64_Lenient
  rw [bif_df (by omega)]
  have := lenient_go fu fu (0, 0) [] b [] [] hf (by simp; omega) (by simp) (fun _ h => by cases h) (by simp; omega)
  simpa [sumN] using this
end Go.Sym.Tr
/- base64: what is encoded is decoded again. -/
namespace Go.Sym.Tr

theorem dbits_cong : ∀ (x y z : List UInt8), dbits y = dbits z → dbits (x ++ y) = dbits (x ++ z)
  | [], _, _, h => h
  | c :: x, y, z, h => by
    simp only [List.cons_append, dbits]
    rw [dbits_cong x y z h]
theorem dbits_crlf (y : List UInt8) : dbits (13 :: 10 :: y) = dbits y := by
  have h1 : v64 13 < 0 := by decide +kernel
  have h2 : v64 10 < 0 := by decide +kernel
  rw [dbits, if_neg (by decide), if_pos h1, dbits, if_neg (by decide), if_pos h2]
theorem dbits_ln : ∀ (n : Nat) (s : List UInt8), s.length < n → dbits (ln76 n s) = dbits s := by
  intro n
  induction n with
  | zero => intro s h; exact absurd h (by omega)
  | succ n ih =>
    intro s h
    rw [ln76]
    by_cases c : 76 < s.length
    · rw [if_pos c, List.append_assoc]
      have e : dbits ([13, 10] ++ ln76 n (s.drop 76)) = dbits (s.drop 76) := by
        rw [show ([13, 10] : List UInt8) ++ ln76 n (s.drop 76) = 13 :: 10 :: ln76 n (s.drop 76) from rfl, dbits_crlf, ih _ (by simp; omega)]
      rw [dbits_cong _ _ _ e, List.take_append_drop]
    · rw [if_neg c]
      by_cases k : s = []
      · rw [if_pos k, k]
      · rw [if_neg k]
        have := dbits_cong s [13, 10] [] (dbits_crlf [])
        rw [List.append_nil] at this
        exact this
theorem dbits_lines (s : List UInt8) : dbits (lines76 s) = dbits s := dbits_ln _ s (by omega)
set_option maxRecDepth 100000 in
theorem al_all : ∀ n : _root_.Fin 64, v64 (al n.val) = (n.val : Int) ∧ al n.val ≠ 61 ∧ 32 ≤ al n.val ∧ al n.val ≤ 126 := by decide +kernel
theorem al_v64 (k : Nat) (h : k < 64) : v64 (al k) = (k : Int) ∧ al k ≠ 61 ∧ 32 ≤ al k ∧ al k ≤ 126 := al_all ⟨k, h⟩
theorem dbits_ch6 : ∀ (q : List Nat) (r : List UInt8), q.length % 6 = 0 → (∀ x ∈ q, x ≤ 1) → dbits (ch6 q ++ r) = q ++ dbits r
  | [], _, _, _ => rfl
  | [_], _, h, _ => by simp at h
  | [_, _], _, h, _ => by simp at h
  | [_, _, _], _, h, _ => by simp at h
  | [_, _, _, _], _, h, _ => by simp at h
  | [_, _, _, _, _], _, h, _ => by simp at h
  | a :: b :: c :: d :: e :: f :: q, r, h, h1 => by
    have hs : ∀ x ∈ [a, b, c, d, e, f], x ≤ 1 := fun x hx => h1 x (by simp at hx ⊢; omega)
    have hlt := sumN_lt [a, b, c, d, e, f] 0 hs
    simp only [List.length_cons, List.length_nil] at hlt
    have hk : sumN 0 [a, b, c, d, e, f] < 64 := by omega
    obtain ⟨k1, k2, _, _⟩ := al_v64 _ hk
    have ha := hs a (by simp)
    have hb := hs b (by simp)
    have hc := hs c (by simp)
    have hd := hs d (by simp)
    have he := hs e (by simp)
    have hf := hs f (by simp)
    rw [ch6, List.cons_append, dbits, if_neg k2, if_neg (by rw [k1]; omega), k1]
    rw [dbits_ch6 q r (by simp only [List.length_cons] at h; omega) (fun x hx => h1 x (by simp [hx]))]
    have e6 : six ((sumN 0 [a, b, c, d, e, f] : Nat) : Int).toNat = [a, b, c, d, e, f] := by
      rw [Int.toNat_natCast]
      simp only [six, sumN, List.cons.injEq, and_true]
      refine ⟨?_, ?_, ?_, ?_, ?_, ?_⟩ <;> omega
    rw [e6]; rfl
theorem dbits_eqs (k : Nat) : dbits (List.replicate k 61) = [] := by
  cases k with
  | zero => rfl
  | succ k => rw [List.replicate_succ, dbits, if_pos rfl]
theorem pad6_len (s : List Nat) : (pad6 s).length % 6 = 0 := by
  unfold pad6; rw [List.length_append, List.length_replicate]; omega
theorem pad6_one (s : List Nat) (h : ∀ x ∈ s, x ≤ 1) : ∀ x ∈ pad6 s, x ≤ 1 := by
  intro x hx
  unfold pad6 at hx
  rcases List.mem_append.1 hx with hx | hx
  · exact h x hx
  · have := List.eq_of_mem_replicate hx; omega
theorem dbits_e64 (b : List UInt8) : dbits (e64 b) = pad6 (bits b) := by
  rw [← e64_eq, pad4, dbits_ch6 _ _ (pad6_len _) (pad6_one _ (bits_one b)), dbits_eqs, List.append_nil]
theorem by8_byte (c : UInt8) (r : List Nat) : by8 (nbits c ++ r) = c :: by8 r := by
  have hc : c.toNat < 256 := c.toNat_lt
  have e : sumN 0 (nbits c) = c.toNat := by
    simp only [nbits, sumN]; omega
  have := by8_app (nbits c) r (by simp [nbits])
  rw [this, show (nbits c).take 8 = nbits c from rfl, show (nbits c).drop 8 = [] from rfl, List.nil_append, e]
  congr 1
  show UInt8.ofNat ((c.toNat : Int) % 256).toNat = c
  rw [show ((c.toNat : Int) % 256).toNat = c.toNat by omega]
  simp
theorem by8_bits : ∀ (b : List UInt8) (k : Nat), k < 8 → by8 (bits b ++ List.replicate k 0) = b
  | [], k, h => by
    rw [show bits [] = [] from rfl, List.nil_append, by8_short _ (by simpa using h)]
  | c :: b, k, h => by
    rw [show bits (c :: b) = nbits c ++ bits b from rfl, List.append_assoc, by8_byte, by8_bits b k h]
/-- decoding undoes encoding -/
theorem by8_e64 (b : List UInt8) : by8 (dbits (lines76 (e64 b))) = b := by
  rw [dbits_lines, dbits_e64, pad6, by8_bits _ _ (by omega)]
end Go.Sym.Tr
/- Bodies that 7bit permits. -/
namespace Go.Sym.Tr

/-- bytes that may stand in a line -/
def prt (x : UInt8) : Prop := x ≠ 0 ∧ x ≠ 13 ∧ x ≠ 10 ∧ ¬ (127 : UInt8) < x
/-- lines that 7bit permits -/
inductive OkL : Nat → List UInt8 → Prop
  | nil (c : Nat) : OkL c []
  | crlf (c : Nat) (r : List UInt8) : OkL 0 r → OkL c (13 :: 10 :: r)
  | chr (c : Nat) (x : UInt8) (r : List UInt8) : prt x → c < 998 → OkL (c + 1) r → OkL c (x :: r)
theorem okl_app (u r : List UInt8) (h : ∀ x ∈ u, prt x) : ∀ (c : Nat), c + u.length ≤ 998 → OkL (c + u.length) r → OkL c (u ++ r) := by
  induction u with
  | nil => intro c _ hr; exact hr
  | cons x u ih =>
    intro c hc hr
    simp only [List.length_cons] at hc hr
    exact .chr c x _ (h x List.mem_cons_self) (by omega) (ih (fun y hy => h y (List.mem_cons_of_mem _ hy)) (c + 1) (by omega) (by rw [show c + 1 + u.length = c + (u.length + 1) by omega]; exact hr))
theorem okl_wr {c : Nat} {s : List UInt8} (h : OkL c s) : ∀ i, c ≤ 998 → wr 127 c i s = -1 := by
  induction h with
  | nil c => intro i _; rw [wr]
  | crlf c r _ ih => intro i _; rw [wr_cons, if_pos (by simp)]; exact ih _ (by omega)
  | chr c x r hx hc _ ih =>
    intro i _
    obtain ⟨h0, h13, h10, h127⟩ := hx
    rw [wr_cons, if_neg (by simp [h13]), if_neg (by simp [h0, h13, h10, h127]; omega)]
    exact ih _ (by omega)
theorem okl_refd (s : List UInt8) (h : OkL 0 s) (_hl : s.length ≤ 1000000000) : refd s false = -1 := okl_wr h 0 (by omega)
theorem ch6_prt : ∀ (n : Nat) (q : List Nat), q.length ≤ n → (∀ x ∈ q, x ≤ 1) → ∀ c ∈ ch6 q, prt c := by
  intro n
  induction n with
  | zero => intro q hl _ c hc; have : q = [] := List.eq_nil_of_length_eq_zero (by omega); subst this; cases hc
  | succ n ih =>
    intro q hl h1 x hx
    match q with
    | [] => cases hx
    | [_] => cases hx
    | [_, _] => cases hx
    | [_, _, _] => cases hx
    | [_, _, _, _] => cases hx
    | [_, _, _, _, _] => cases hx
    | a :: b :: c :: d :: e :: f :: q =>
      have hs : ∀ x ∈ [a, b, c, d, e, f], x ≤ 1 := fun x hx => h1 x (by simp at hx ⊢; omega)
      have hlt := sumN_lt [a, b, c, d, e, f] 0 hs
      simp only [List.length_cons, List.length_nil] at hlt
      obtain ⟨_, _, k3, k4⟩ := al_v64 _ (show sumN 0 [a, b, c, d, e, f] < 64 by omega)
      rw [ch6] at hx
      rcases List.mem_cons.1 hx with hx | hx
      · subst hx
        refine ⟨?_, ?_, ?_, ?_⟩
        · intro h; rw [h] at k3; exact absurd k3 (by decide)
        · intro h; rw [h] at k3; exact absurd k3 (by decide)
        · intro h; rw [h] at k3; exact absurd k3 (by decide)
        · intro h; rw [UInt8.lt_iff_toNat_lt] at h; rw [UInt8.le_iff_toNat_le] at k4
          have e1 : (127 : UInt8).toNat = 127 := rfl
          have e2 : (126 : UInt8).toNat = 126 := rfl
          omega
      · exact ih q (by simp only [List.length_cons] at hl; omega) (fun x hx => h1 x (by simp [hx])) x hx
theorem e64_prt (b : List UInt8) : ∀ c ∈ e64 b, prt c := by
  intro c hc
  rw [← e64_eq, pad4] at hc
  rcases List.mem_append.1 hc with hc | hc
  · exact ch6_prt _ _ (Nat.le_refl _) (pad6_one _ (bits_one b)) c hc
  · have := List.eq_of_mem_replicate hc
    subst this; exact ⟨by decide, by decide, by decide, by decide⟩
theorem okl_ln : ∀ (n : Nat) (s : List UInt8), s.length < n → (∀ c ∈ s, prt c) → OkL 0 (ln76 n s) := by
  intro n
  induction n with
  | zero => intro s h; exact absurd h (by omega)
  | succ n ih =>
    intro s h hs
    rw [ln76]
    by_cases c : 76 < s.length
    · rw [if_pos c, List.append_assoc]
      exact okl_app _ _ (fun x hx => hs x (List.mem_of_mem_take hx)) 0 (by simp; omega) (.crlf _ _ (ih _ (by simp; omega) (fun x hx => hs x (List.mem_of_mem_drop hx))))
    · rw [if_neg c]
      by_cases k : s = []
      · rw [if_pos k]; exact .nil 0
      · rw [if_neg k]
        exact okl_app _ _ hs 0 (by omega) (.crlf _ _ (.nil 0))
theorem okl_e64 (b : List UInt8) : OkL 0 (lines76 (e64 b)) := okl_ln _ _ (by omega) (e64_prt b)
set_option maxRecDepth 100000 in
theorem sgn_prt_all : ∀ n : _root_.Fin 256, ∀ e : Bool, (sgn (UInt8.ofNat n.val) e).all (fun x => x != 0 && x != 13 && x != 10 && !decide ((127 : UInt8) < x)) = true := by decide +kernel
theorem sgn_prt (c : UInt8) (e : Bool) : ∀ x ∈ sgn c e, prt x := by
  intro x hx
  have := List.all_eq_true.1 (byte_all (fun c => ∀ e, (sgn c e).all (fun x => x != 0 && x != 13 && x != 10 && !decide ((127 : UInt8) < x)) = true) sgn_prt_all c e) x hx
  simp only [Bool.and_eq_true, bne_iff_ne, ne_eq, Bool.not_eq_true', decide_eq_false_iff_not] at this
  exact ⟨this.1.1.1, this.1.1.2, this.1.2, this.2⟩
theorem okl_soft (c : Nat) (r : List UInt8) (h : c < 998) (hr : OkL 0 r) : OkL c (61 :: 13 :: 10 :: r) :=
  .chr c 61 _ ⟨by decide, by decide, by decide, by decide⟩ h (.crlf _ _ hr)
theorem okl_qe : ∀ (n : Nat) (s : List UInt8) (c : Nat), s.length ≤ n → c ≤ 80 → OkL c (qe c s) := by
  intro n
  induction n with
  | zero => intro s c h _; have : s = [] := List.eq_nil_of_length_eq_zero (by omega); subst this; exact .nil c
  | succ n ih =>
    intro s c h hc
    match s with
    | [] => exact .nil c
    | [x] =>
      have hl := sgn_len x true
      rw [qe]
      by_cases k : 76 < c + (sgn x true).length
      · rw [if_pos k]
        refine okl_soft c _ (by omega) ?_
        have := okl_app (sgn x true) [] (sgn_prt x true) 0 (by omega) (.nil _)
        rw [List.append_nil] at this
        exact this
      · rw [if_neg k]
        have := okl_app (sgn x true) [] (sgn_prt x true) c (by omega) (.nil _)
        rw [List.append_nil] at this
        exact this
    | x :: d :: r =>
      simp only [List.length_cons] at h
      have hl := sgn_len x (isL (d :: r))
      rw [qe]
      by_cases k : x = 13 ∧ d = 10
      · rw [if_pos k]
        exact .crlf c _ (ih r 0 (by omega) (by omega))
      · rw [if_neg k]
        have hm : (if isL (d :: r) = true then 76 else 75) ≤ 76 := by split <;> omega
        by_cases q : (if isL (d :: r) = true then 76 else 75) < c + (sgn x (isL (d :: r))).length
        · rw [if_pos q, List.append_assoc]
          exact okl_soft c _ (by omega) (okl_app _ _ (sgn_prt x _) 0 (by omega) (by
            rw [Nat.zero_add]; exact ih (d :: r) _ (by simp; omega) (by omega)))
        · rw [if_neg q]
          exact okl_app _ _ (sgn_prt x _) c (by omega) (ih (d :: r) _ (by simp; omega) (by omega))
end Go.Sym.Tr
/- quoted-printable, decoded: lines; what is encoded is decoded again. -/
namespace Go.Sym.Tr

/-- a hexadecimal digit -/
def hv (c : UInt8) : Option UInt8 := if 48 ≤ c ∧ c ≤ 57 then some (c - 48) else if 65 ≤ c ∧ c ≤ 70 then some (c - 65 + 10) else if 97 ≤ c ∧ c ≤ 102 then some (c - 97 + 10) else none
/-- two of them -/
def hx (a b : UInt8) : Option UInt8 := (hv a).bind fun x => (hv b).map fun y => 16 * x + y
/-- what the text of a line says -/
def dq : List UInt8 → List UInt8
  | [] => []
  | [c] => [c]
  | [c, d] => [c, d]
  | c :: a :: b :: r => if c = 61 then (match hx a b with | some x => x :: dq r | none => c :: dq (a :: b :: r)) else c :: dq (a :: b :: r)
theorem dq_cons (c : UInt8) (r : List UInt8) (h : c ≠ 61) : dq (c :: r) = c :: dq r := by
  match r with
  | [] => rfl
  | [_] => rfl
  | _ :: _ :: _ => rw [dq, if_neg h]
theorem dq_hex (a b x : UInt8) (r : List UInt8) (h : hx a b = some x) : dq (61 :: a :: b :: r) = x :: dq r := by
  rw [dq, if_pos rfl, h]
/-- a blank -/
def bl (c : UInt8) : Bool := c == 32 || c == 9
/-- a text without blanks at its end -/
def rtrim (l : List UInt8) : List UInt8 := (l.reverse.dropWhile bl).reverse
/-- a line's text and its end -/
def lnE (t : List UInt8) (nl : Bool) : List UInt8 × List UInt8 := if nl then (if t.getLast? = some 13 then (t.dropLast, [13, 10]) else (t, [10])) else (t, [])
/-- what a text and an end say -/
def lnT (u e : List UInt8) : List UInt8 := if u.getLast? = some 61 then dq u.dropLast else dq u ++ e
/-- what a line says -/
def lnO (t : List UInt8) (nl : Bool) : List UInt8 := lnT (rtrim (lnE t nl).1) (lnE t nl).2
/-- what lines say -/
def qm (acc : List UInt8) : List UInt8 → List UInt8
  | [] => lnO acc false
  | c :: r => if c = 10 then lnO acc true ++ qm [] r else qm (acc ++ [c]) r
theorem rtrim_id (l : List UInt8) (h : ∀ c, l.getLast? = some c → bl c = false) : rtrim l = l := by
  unfold rtrim
  cases e : l.reverse with
  | nil => have : l = [] := by simpa using e
           subst this; rfl
  | cons c t =>
    have hc : l.getLast? = some c := by rw [List.getLast?_eq_head?_reverse, e]; rfl
    have : List.dropWhile bl (c :: t) = c :: t := by simp [List.dropWhile, h c hc]
    rw [this, ← e, List.reverse_reverse]
theorem qm_app (u : List UInt8) : ∀ (acc r : List UInt8), (∀ x ∈ u, x ≠ 10) → qm acc (u ++ r) = qm (acc ++ u) r := by
  induction u with
  | nil => intro acc r _; simp
  | cons x u ih =>
    intro acc r h
    rw [List.cons_append, qm, if_neg (h x List.mem_cons_self), ih _ _ (fun y hy => h y (List.mem_cons_of_mem _ hy))]
    simp
/-- a text that is written so far -/
structure Un (acc out : List UInt8) (sp : Bool) : Prop where
  dec : ∀ rest, dq (acc ++ rest) = out ++ dq rest
  no : acc.getLast? ≠ some 61
  nb : sp = false → ∀ c, acc.getLast? = some c → bl c = false
theorem un_nil : Un [] [] false := ⟨fun _ => rfl, by simp, fun _ c h => by cases h⟩
theorem un_weak {acc out : List UInt8} {sp : Bool} (h : Un acc out sp) : Un acc out true := ⟨h.dec, h.no, fun q => by cases q⟩
/-- one byte's characters are as they should be -/
def sgnB (x : UInt8) (e : Bool) : Bool := match sgn x e with
  | [y] => y == x && y != 61 && (!e || !bl y)
  | [y, a, b] => y == 61 && hx a b == some x && b != 61 && !bl b
  | _ => false
set_option maxRecDepth 100000 in
theorem sgnB_all : ∀ n : _root_.Fin 256, ∀ e : Bool, sgnB (UInt8.ofNat n.val) e = true := by decide +kernel
theorem sgnB_eq (x : UInt8) (e : Bool) : sgnB x e = true := byte_all (fun c => ∀ e, sgnB c e = true) sgnB_all x e
theorem un_step {acc out : List UInt8} {sp : Bool} (h : Un acc out sp) (x : UInt8) (e : Bool) : Un (acc ++ sgn x e) (out ++ [x]) (!e) := by
  have hb := sgnB_eq x e
  unfold sgnB at hb
  split at hb
  · rename_i y hy
    simp only [Bool.and_eq_true, beq_iff_eq, bne_iff_ne, ne_eq, Bool.or_eq_true, Bool.not_eq_true'] at hb
    obtain ⟨⟨h1, h2⟩, h3⟩ := hb
    rw [hy]
    subst h1
    refine ⟨fun rest => ?_, by simpa using h2, fun q c hc => ?_⟩
    · rw [List.append_assoc, h.dec, List.singleton_append, dq_cons _ _ h2]; simp
    · have : y = c := by simpa using hc
      subst this
      rcases h3 with h3 | h3
      · rw [h3] at q; cases q
      · exact h3
  · rename_i y a b hy
    simp only [Bool.and_eq_true, beq_iff_eq, bne_iff_ne, ne_eq, Bool.not_eq_true'] at hb
    obtain ⟨⟨⟨h1, h2⟩, h3⟩, h4⟩ := hb
    rw [hy]
    subst h1
    refine ⟨fun rest => ?_, by simpa using h3, fun q c hc => ?_⟩
    · rw [List.append_assoc, h.dec, List.cons_append, List.cons_append, List.cons_append, List.nil_append, dq_hex _ _ _ _ h2]; simp
    · have : b = c := by simpa using hc
      subst this
      exact h4
  · cases hb
theorem sgn_no10 (x : UInt8) (e : Bool) : ∀ c ∈ sgn x e, c ≠ 10 := fun c hc => (sgn_prt x e c hc).2.2.1
theorem un_soft {acc out : List UInt8} {sp : Bool} (h : Un acc out sp) (r : List UInt8) : qm acc ([61, 13, 10] ++ r) = out ++ qm [] r := by
  rw [show ([61, 13, 10] : List UInt8) ++ r = [61, 13] ++ 10 :: r from rfl, qm_app _ _ _ (by decide), qm, if_pos rfl]
  have e1 : lnE (acc ++ [61, 13]) true = (acc ++ [61], [13, 10]) := by
    unfold lnE
    rw [if_pos rfl, if_pos (by simp)]
    rw [show acc ++ [61, 13] = (acc ++ [61]) ++ [13] by simp, List.dropLast_concat]
  have e2 : rtrim (acc ++ [61]) = acc ++ [61] := rtrim_id _ (fun c hc => by
    have : 61 = c := by simpa using hc
    subst this; rfl)
  have e3 : dq acc = out := by
    have := h.dec []
    simpa [dq] using this
  unfold lnO lnT
  rw [e1, e2, if_pos (by simp), List.dropLast_concat, e3]
theorem un_line {acc out : List UInt8} (h : Un acc out false) (r : List UInt8) : qm acc (13 :: 10 :: r) = out ++ [13, 10] ++ qm [] r := by
  rw [show (13 : UInt8) :: 10 :: r = [13] ++ 10 :: r from rfl, qm_app _ _ _ (by decide), qm, if_pos rfl]
  have e1 : lnE (acc ++ [13]) true = (acc, [13, 10]) := by
    unfold lnE
    rw [if_pos rfl, if_pos (by simp), List.dropLast_concat]
  have e3 : dq acc = out := by
    have := h.dec []
    simpa [dq] using this
  unfold lnO lnT
  rw [e1, rtrim_id _ (h.nb rfl), if_neg h.no, e3]
theorem un_end {acc out : List UInt8} (h : Un acc out false) : qm acc [] = out := by
  have e3 : dq acc = out := by
    have := h.dec []
    simpa [dq] using this
  unfold qm lnO lnT lnE
  simp only [Bool.false_eq_true, if_false]
  rw [rtrim_id _ (h.nb rfl), if_neg h.no, e3, List.append_nil]
theorem qm_qe : ∀ (n : Nat) (s acc out : List UInt8) (sp : Bool) (c : Nat), s.length ≤ n → Un acc out sp → (sp = true → s ≠ [] ∧ isL s = false) → qm acc (qe c s) = out ++ s := by
  intro n
  induction n with
  | zero =>
    intro s acc out sp c h hu hs
    have : s = [] := List.eq_nil_of_length_eq_zero (by omega)
    subst this
    cases sp with
    | true => exact absurd rfl (hs rfl).1
    | false => rw [qe, un_end hu]; simp
  | succ n ih =>
    intro s acc out sp c h hu hs
    match s with
    | [] =>
      cases sp with
      | true => exact absurd rfl (hs rfl).1
      | false => rw [qe, un_end hu]; simp
    | [x] =>
      rw [qe]
      by_cases k : 76 < c + (sgn x true).length
      · rw [if_pos k, un_soft hu]
        have := qm_app (sgn x true) [] [] (sgn_no10 x true)
        rw [List.append_nil, List.nil_append] at this
        rw [this]
        have u := un_step un_nil x true
        rw [List.nil_append, List.nil_append] at u
        rw [un_end u]
      · rw [if_neg k, List.nil_append]
        have := qm_app (sgn x true) acc [] (sgn_no10 x true)
        rw [List.append_nil] at this
        rw [this, un_end (un_step hu x true)]
    | x :: d :: r =>
      simp only [List.length_cons] at h
      rw [qe]
      by_cases k : x = 13 ∧ d = 10
      · rw [if_pos k]
        obtain ⟨rfl, rfl⟩ := k
        cases sp with
        | true => have := (hs rfl).2; simp [isL] at this
        | false =>
          rw [un_line hu, ih r [] [] false 0 (by omega) un_nil (fun q => by cases q)]
          simp
      · rw [if_neg k]
        have side : (!isL (d :: r)) = true → d :: r ≠ [] ∧ isL (d :: r) = false := fun q => ⟨by simp, by simpa using q⟩
        by_cases q : (if isL (d :: r) = true then 76 else 75) < c + (sgn x (isL (d :: r))).length
        · rw [if_pos q, List.append_assoc, un_soft hu, qm_app _ _ _ (sgn_no10 x _), List.nil_append]
          have u := un_step un_nil x (isL (d :: r))
          rw [List.nil_append, List.nil_append] at u
          rw [ih (d :: r) _ _ _ _ (by simp; omega) u side]
          simp
        · rw [if_neg q, qm_app _ _ _ (sgn_no10 x _), ih (d :: r) _ _ _ _ (by simp; omega) (un_step hu x (isL (d :: r))) side]
          simp
theorem qm_quoted (b : List UInt8) : qm [] (qe 0 b) = b := by
  rw [qm_qe b.length b [] [] false 0 (Nat.le_refl _) un_nil (fun q => by cases q), List.nil_append]
end Go.Sym.Tr
/- quoted.Lenient: digits, blanks. -/
namespace Go.Sym.Tr

set_option maxRecDepth 100000 in
theorem bhex_all : ∀ n : _root_.Fin 256, F_basic_Hex (UInt8.ofNat n.val) = some ((hv (UInt8.ofNat n.val)).getD 0, (hv (UInt8.ofNat n.val)).isSome) := by decide +kernel
theorem bhex_eq (c : UInt8) : F_basic_Hex c = some ((hv c).getD 0, (hv c).isSome) := byte_all (fun c => F_basic_Hex c = some ((hv c).getD 0, (hv c).isSome)) bhex_all c
def hvI (c : UInt8) : Int := match hv c with | some x => (x.toNat : Int) | none => -1
def hdig : List UInt8 := [48, 49, 50, 51, 52, 53, 54, 55, 56, 57, 65, 66, 67, 68, 69, 70]
def hexS (c : UInt8) : Nat → Nat → Int
  | 0, _ => -1
  | m + 1, k => if hdig.getD k 0 = c then (k : Int) else if (hdig.map lo).getD k 0 = c then (k : Int) else hexS c m (k + 1)
set_option maxRecDepth 100000 in
theorem hexS_all : ∀ n : _root_.Fin 256, hexS (UInt8.ofNat n.val) 16 0 = hvI (UInt8.ofNat n.val) := by decide +kernel
set_option maxRecDepth 100000 in
theorem hv16_all : ∀ n : _root_.Fin 256, (hv (UInt8.ofNat n.val)).all (fun x => decide (x.toNat < 16)) = true := by decide +kernel
theorem hv16 (c x : UInt8) (h : hv c = some x) : x.toNat < 16 := by
  have := byte_all (fun c => (hv c).all (fun x => decide (x.toNat < 16)) = true) hv16_all c
  rw [h] at this
  simpa using this
set_option maxRecDepth 100000 in
theorem twoh_all : ∀ x y : _root_.Fin 16, (u8shl (UInt8.ofNat x.val) (min (4 : Int).toNat 8)) ||| UInt8.ofNat y.val = 16 * UInt8.ofNat x.val + UInt8.ofNat y.val ∧ toU8 (w64 ((w64 ((16 : Int) * ((UInt8.ofNat x.val).toNat : Int))) + ((UInt8.ofNat y.val).toNat : Int))) = 16 * UInt8.ofNat x.val + UInt8.ofNat y.val := by decide +kernel
theorem two_hex (x y : UInt8) (hx1 : x.toNat < 16) (hy1 : y.toNat < 16) : (u8shl x (min (4 : Int).toNat 8)) ||| y = 16 * x + y ∧ toU8 (w64 ((w64 ((16 : Int) * (x.toNat : Int))) + (y.toNat : Int))) = 16 * x + y := by
  have := twoh_all ⟨x.toNat, hx1⟩ ⟨y.toNat, hy1⟩
  simpa using this
/-- a byte written as two digits at the front -/
def pairR : List UInt8 → Option UInt8
  | a :: b :: _ => hx a b
  | _ => none
theorem dq_61 (r : List UInt8) : dq (61 :: r) = match pairR r with | some x => x :: dq (r.drop 2) | none => 61 :: dq r := by
  match r with
  | [] => rfl
  | [_] => rfl
  | a :: b :: t =>
    rw [dq, if_pos rfl]
    show _ = match hx a b with | some x => x :: dq t | none => 61 :: dq (a :: b :: t)
    cases hx a b <;> rfl
theorem pair_eq (r : List UInt8) : ∃ v, F_basic_Pair (r.take 2) = some (v, (pairR r).isSome) ∧ ∀ x, pairR r = some x → v = x := by
  match r with
  | [] => exact ⟨0, rfl, fun x h => by cases h⟩
  | [_] => exact ⟨0, rfl, fun x h => by cases h⟩
  | a :: b :: t =>
    have e : F_basic_Pair ((a :: b :: t).take 2) = some ((u8shl ((hv a).getD 0) (min (4 : Int).toNat 8)) ||| (hv b).getD 0, (hv a).isSome && (hv b).isSome) := by
      unfold F_basic_Pair
      rw [bif_df (by simp), show (a :: b :: t).take 2 = [a, b] from rfl, show idx [a, b] 0 = some a from rfl, show idx [a, b] 1 = some b from rfl]
      simp only [Option.bind_some, bhex_eq]
      cases (hv a).isSome <;> rfl
    rw [e, show pairR (a :: b :: t) = hx a b from rfl]
    unfold hx
    cases ha : hv a with
    | none => exact ⟨_, rfl, fun x h => by cases h⟩
    | some x =>
      cases hb : hv b with
      | none => exact ⟨_, rfl, fun x h => by cases h⟩
      | some y =>
        refine ⟨_, rfl, fun z h => ?_⟩
        have hz : 16 * x + y = z := by simpa using h
        rw [← hz]
        exact (two_hex x y (hv16 a x ha) (hv16 b y hb)).1
theorem take2 (pre : List UInt8) (c : UInt8) (r : List UInt8) (hb : pre.length + r.length < 1000000000) :
    List.take ((if (List.length (pre ++ c :: r) : Int) < w64 ((pre.length : Int) + (3 : Int)) then (List.length (pre ++ c :: r) : Int) else w64 ((pre.length : Int) + (3 : Int))).toNat - (((pre.length + 1 : Nat) : Int)).toNat) (List.drop (((pre.length + 1 : Nat) : Int)).toNat (pre ++ c :: r)) = r.take 2 := by
  rw [drop_mid1, w64_eq (by omega) (by omega)]
  have hl : ((pre ++ c :: r).length : Int) = (pre.length : Int) + 1 + (r.length : Int) := by simp; omega
  rw [hl]
  by_cases q : (pre.length : Int) + 1 + (r.length : Int) < (pre.length : Int) + 3
  · rw [if_pos q, List.take_of_length_le (by omega), List.take_of_length_le (by omega)]
  · rw [if_neg q, show ((pre.length : Int) + 3).toNat - (((pre.length + 1 : Nat) : Int)).toNat = 2 by omega]
theorem plain_go (fu n : Nat) : ∀ (pre suf out : List UInt8), suf.length < n → pre.length + suf.length < 1000000000 → out.length + suf.length ≤ 2000000000 →
    F_quoted_plain_p0 fu n (pre ++ suf) (pre.length : Int) out = some (out ++ dq suf) := by
  induction n with
  | zero => intro pre suf out h; exact absurd h (by omega)
  | succ n ih =>
    intro pre suf out h hb ho
    cases suf with
    | nil => rw [F_quoted_plain_p0, F_quoted_plain_b0, bif_df (by simp)]; simp [dq]
    | cons c r =>
      simp only [List.length_cons] at h hb ho
      have one : F_quoted_plain_p0 fu n (pre ++ c :: r) ((pre.length + 1 : Nat) : Int) (out ++ [c]) = some (out ++ c :: dq r) := by
        have := ih (pre ++ [c]) r (out ++ [c]) (by omega) (by simp; omega) (by simp; omega)
        simpa using this
      rw [F_quoted_plain_p0, F_quoted_plain_b0, bif_dt (by simp; omega), idx_mid]
      simp only [Option.bind_some]
      rw [nx_nat _ (by omega), bif_eq8]
      by_cases q : c = 61
      · subst q
        have hl : ((pre ++ 61 :: r).length : Int) = (pre.length : Int) + 1 + (r.length : Int) := by simp; omega
        have e3 : w64 ((pre.length : Int) + 3) = (pre.length : Int) + 3 := w64_eq (by omega) (by omega)
        rw [if_pos rfl, take2 _ _ _ (by omega), bif_dt (by rw [hl, e3]; split <;> omega)]
        obtain ⟨v, h1, h2⟩ := pair_eq r
        rw [h1, Option.bind_some, dq_61, bif_bt]
        cases hp : pairR r with
        | none =>
          rw [if_neg (by simp), bif_dt (by simp [rowMax]; omega)]
          exact one
        | some x =>
          have hv := h2 x hp
          subst hv
          match r, hp with
          | a :: b :: t, hp =>
            simp only [List.length_cons] at h hb ho
            have e2 : w64 (w64 ((pre.length : Int) + 2) + 1) = ((pre.length + 3 : Nat) : Int) := by rw [w64_eq (x := (pre.length : Int) + 2) (by omega) (by omega), w64_eq (by omega) (by omega)]; omega
            rw [if_pos (show (v, (some v).isSome).snd = true from rfl), bif_dt (by simp [rowMax]; omega), e2]
            have := ih (pre ++ [61, a, b]) t (out ++ [v]) (by omega) (by simp; omega) (by simp; omega)
            simpa using this
      · rw [if_neg q, bif_dt (by simp [rowMax]; omega), one, dq_cons _ _ q]
theorem plain_eq (fu : Nat) (s : List UInt8) (h : s.length < fu) (hb : s.length < 1000000000) : F_quoted_plain fu s = some (dq s) := by
  have := plain_go fu fu [] s [] h (by simpa using hb) (by simp; omega)
  rw [List.nil_append, List.nil_append] at this
  exact this
end Go.Sym.Tr
/- quoted.Lenient in plain words. -/
namespace Go.Sym.Tr

theorem w_last (n : Nat) (h : n < 1000000000) : w64 (((n + 1 : Nat) : Int) - 1) = (n : Int) := by rw [w64_eq (by omega) (by omega)]; omega
theorem idx_last {α : Type} (t : List α) (c : α) : idx (t ++ [c]) (t.length : Int) = some c := idx_mid t c []
theorem take_last {α : Type} (t : List α) (c : α) : List.take ((t.length : Nat) : Int).toNat (t ++ [c]) = t := by simp
theorem len_last {α : Type} (t : List α) (c : α) : ((t ++ [c]).length : Int) = ((t.length + 1 : Nat) : Int) := by simp
theorem rtrim_snoc (t : List UInt8) (c : UInt8) : rtrim (t ++ [c]) = if bl c then rtrim t else t ++ [c] := by
  unfold rtrim
  rw [List.reverse_append, List.reverse_singleton, List.singleton_append, List.dropWhile]
  cases bl c
  · simp
  · simp
def blSet : List Bool := ((List.replicate 256 false).set 32 true).set 9 true
theorem ascii_eq (n : Nat) : F_bytes_makeASCIISet (n + 3) [32, 9] = some (blSet, true) := by kernel_rfl
set_option maxRecDepth 100000 in
theorem contains_all : ∀ n : _root_.Fin 256, blSet[(UInt8.ofNat n.val).toNat]? = some (bl (UInt8.ofNat n.val)) := by decide +kernel
theorem contains_eq (c : UInt8) : F_bytes_asciiSet_contains c blSet = some (bl c, blSet) := by
  unfold F_bytes_asciiSet_contains
  rw [byte_all (fun c => blSet[c.toNat]? = some (bl c)) contains_all c, Option.bind_some]
theorem trimA_go (fu n : Nat) : ∀ (s : List UInt8), s.length < n → s.length < 1000000000 → F_bytes_trimRightASCII_p0 fu n s blSet = some (rtrim s, blSet) := by
  induction n with
  | zero => intro s h; exact absurd h (by omega)
  | succ n ih =>
    intro s h hb
    rw [F_bytes_trimRightASCII_p0, F_bytes_trimRightASCII_b0]
    rcases List.eq_nil_or_concat s with rfl | ⟨t, c, rfl⟩
    · rw [bif_df (by simp)]; rfl
    · rw [List.concat_eq_append] at *
      simp only [List.length_append, List.length_cons, List.length_nil] at h hb
      rw [len_last, bif_dt (by omega), w_last _ (by omega), idx_last, Option.bind_some, contains_eq, Option.bind_some, take_last, bif_dt (by omega), ih t (by omega) (by omega), rtrim_snoc]
      cases bl c <;> rfl
theorem trimR_eq (fu : Nat) (hfu : 3 ≤ fu) (s : List UInt8) (h : s.length < fu) (hb : s.length < 1000000000) : F_bytes_TrimRight fu s [32, 9] = some (rtrim s) := by
  unfold F_bytes_TrimRight
  rw [bif_eq]
  cases s with
  | nil => rfl
  | cons c s =>
    rw [if_neg (by simp; omega)]
    unfold F_bytes_TrimRight_p0
    rw [bif_f (by decide)]
    unfold F_bytes_TrimRight_p1
    rw [bif_f (by decide)]
    unfold F_bytes_TrimRight_p2
    rw [bif_f rfl]
    unfold F_bytes_TrimRight_p3
    obtain ⟨n, rfl⟩ : ∃ n, fu = n + 3 := ⟨fu - 3, by omega⟩
    rw [ascii_eq n, Option.bind_some, bif_t (by decide +kernel), bif_t rfl]
    unfold F_bytes_trimRightASCII
    rw [trimA_go _ _ _ h hb]; rfl
theorem hasSuf_eq (s : List UInt8) (k : UInt8) (hb : s.length < 1000000000) : F_bytes_HasSuffix s [k] = some (decide (s.getLast? = some k)) := by
  unfold F_bytes_HasSuffix F_bytes_Equal
  rcases List.eq_nil_or_concat s with rfl | ⟨t, c, rfl⟩
  · rw [bif_df (by simp)]; rfl
  · rw [List.concat_eq_append] at *
    simp only [List.length_append, List.length_cons, List.length_nil] at hb
    rw [len_last, show (([k] : List UInt8).length : Int) = 1 from rfl, w_last _ (by omega), bif_dt (by omega), bif_dt (by omega), Option.bind_some]
    have e : List.drop ((t.length : Nat) : Int).toNat (t ++ [c]) = [c] := drop_mid t [c]
    rw [e, List.getLast?_concat]
    congr 1
    rw [Bool.eq_iff_iff]; simp
theorem trimSuf_eq (s : List UInt8) (k : UInt8) (hb : s.length < 1000000000) : F_bytes_TrimSuffix s [k] = some (if s.getLast? = some k then s.dropLast else s) := by
  unfold F_bytes_TrimSuffix
  rw [hasSuf_eq s k hb, Option.bind_some, bif_d]
  by_cases q : s.getLast? = some k
  · rw [if_pos q, if_pos q]
    rcases List.eq_nil_or_concat s with rfl | ⟨t, c, rfl⟩
    · cases q
    · rw [List.concat_eq_append] at *
      simp only [List.length_append, List.length_cons, List.length_nil] at hb
      rw [len_last, show (([k] : List UInt8).length : Int) = 1 from rfl, w_last _ (by omega), bif_dt (by omega), take_last, List.dropLast_concat]
  · rw [if_neg q, if_neg q]
theorem iB_at (t r : List UInt8) (h : ∀ x ∈ t, x ≠ 10) : Lib.indexByte (t ++ 10 :: r) 10 = (t.length : Int) := by
  induction t with
  | nil => rfl
  | cons c t ih =>
    have hc := h c List.mem_cons_self
    rw [List.cons_append, Lib.indexByte, ih (fun x hx => h x (List.mem_cons_of_mem _ hx)), if_neg (by simpa using hc), if_neg (by simp <;> omega)]
    simp
theorem iB_no (t : List UInt8) (h : ∀ x ∈ t, x ≠ 10) : Lib.indexByte t 10 = -1 := by
  induction t with
  | nil => rfl
  | cons c t ih =>
    have hc := h c List.mem_cons_self
    rw [Lib.indexByte, ih (fun x hx => h x (List.mem_cons_of_mem _ hx)), if_neg (by simpa using hc), if_pos (by decide)]
theorem split10 : ∀ (s : List UInt8), (∃ t r, s = t ++ 10 :: r ∧ ∀ x ∈ t, x ≠ 10) ∨ ∀ x ∈ s, x ≠ 10
  | [] => .inr (fun _ h => by cases h)
  | c :: s => by
    by_cases k : c = 10
    · exact .inl ⟨[], s, by rw [k]; rfl, fun _ h => by cases h⟩
    · rcases split10 s with ⟨t, r, rfl, h⟩ | h
      · exact .inl ⟨c :: t, r, rfl, fun x hx => by
          rcases List.mem_cons.1 hx with rfl | hx
          · exact k
          · exact h x hx⟩
      · exact .inr (fun x hx => by
          rcases List.mem_cons.1 hx with rfl | hx
          · exact k
          · exact h x hx)
theorem qm_line (t r : List UInt8) (h : ∀ x ∈ t, x ≠ 10) : qm [] (t ++ 10 :: r) = lnO t true ++ qm [] r := by
  rw [qm_app t [] _ h, List.nil_append, qm, if_pos rfl]
theorem qm_last (t : List UInt8) (h : ∀ x ∈ t, x ≠ 10) : qm [] t = lnO t false := by
  have := qm_app t [] [] h
  rw [List.append_nil, List.nil_append] at this
  rw [this]; rfl
theorem dq_len : ∀ (n : Nat) (s : List UInt8), s.length ≤ n → (dq s).length ≤ s.length := by
  intro n
  induction n with
  | zero => intro s h; have : s = [] := List.eq_nil_of_length_eq_zero (by omega); subst this; exact Nat.le_refl _
  | succ n ih =>
    intro s h
    match s with
    | [] => exact Nat.le_refl _
    | c :: r =>
      simp only [List.length_cons] at h
      have h1 := ih r (by omega)
      by_cases k : c = 61
      · subst k
        rw [dq_61]
        cases pairR r with
        | none => simp only [List.length_cons]; omega
        | some x =>
          have h2 := ih (r.drop 2) (by simp; omega)
          simp only [List.length_cons, List.length_drop] at h2 ⊢; omega
      · rw [dq_cons _ _ k]; simp only [List.length_cons]; omega
theorem rtrim_len (s : List UInt8) : (rtrim s).length ≤ s.length := by
  unfold rtrim
  rw [List.length_reverse]
  have := (List.dropWhile_sublist bl (l := s.reverse)).length_le
  simpa using this
/-- behind the two ends of a line -/
theorem ln_p2 (fu : Nat) (hfu : 3 ≤ fu) (r0 : List UInt8 → (Int × Int) → List UInt8 → Option ((Int × Int) × List UInt8)) (u e r : List UInt8) (m16 : Int × Int) (out : List UInt8) (h : u.length < fu) (hb : u.length + e.length + r.length < 1000000000) (ho : out.length + u.length + e.length ≤ 2000000000) :
    F_quoted_Lenient_p2 fu r0 (u ++ e ++ r) ((u.length + e.length : Nat) : Int) u m16 out = r0 r m16 (out ++ lnT (rtrim u) e) := by
  unfold F_quoted_Lenient_p2
  have hl := rtrim_len u
  have p3 : ∀ v e', v.length ≤ u.length → e'.length ≤ e.length → F_quoted_Lenient_p3 fu r0 (u ++ e ++ r) ((u.length + e.length : Nat) : Int) v e' m16 out = r0 r m16 (out ++ (dq v ++ e')) := by
    intro v e' hv he
    have hd := dq_len _ v (Nat.le_refl _)
    unfold F_quoted_Lenient_p3
    rw [plain_eq fu v (by omega) (by omega), Option.bind_some, bif_dt (by simp [rowMax]; omega), bif_dt (by simp [rowMax]; omega), bif_dt (by simp; omega)]
    have ed : List.drop ((u.length + e.length : Nat) : Int).toNat (u ++ e ++ r) = r := by
      have := drop_mid (u ++ e) r
      rw [List.length_append] at this
      exact this
    rw [ed, List.append_assoc]
  rw [bif_dt (by simp; omega), trimR_eq fu hfu u h (by omega), Option.bind_some, bif_dt (by simp), hasSuf_eq _ _ (by omega), Option.bind_some, bif_d]
  unfold lnT
  by_cases q : (rtrim u).getLast? = some 61
  · rw [if_pos q, if_pos q]
    revert hl q
    rcases List.eq_nil_or_concat (rtrim u) with e0 | ⟨t, c, e0⟩
    · intro _ q; rw [e0] at q; cases q
    · rw [e0, List.concat_eq_append]
      intro hl q
      simp only [List.length_append, List.length_cons, List.length_nil] at hl
      rw [len_last, w_last _ (by omega), bif_dt (by omega), take_last, List.dropLast_concat, p3 t [] (by omega) (by simp), List.append_nil]
  · rw [if_neg q, if_neg q]
    have et : List.take (((u.length + e.length : Nat) : Int).toNat - (u.length : Int).toNat) (List.drop (u.length : Int).toNat (u ++ e ++ r)) = e := by
      rw [List.append_assoc, drop_mid, show ((u.length + e.length : Nat) : Int).toNat - (u.length : Int).toNat = e.length by omega]
      simp
    rw [et, p3 (rtrim u) e hl (Nat.le_refl _)]
theorem ln_true (fu : Nat) (hfu : 3 ≤ fu) (r0 : List UInt8 → (Int × Int) → List UInt8 → Option ((Int × Int) × List UInt8)) (t r : List UInt8) (m16 : Int × Int) (out : List UInt8) (h : t.length < fu) (hb : t.length + r.length + 2 < 1000000000) (ho : out.length + t.length + 2 ≤ 2000000000) :
    F_quoted_Lenient_p1 fu r0 (t ++ 10 :: r) ((t.length + 1 : Nat) : Int) m16 out = r0 r m16 (out ++ lnO t true) := by
  unfold F_quoted_Lenient_p1
  have et : List.take ((t.length + 1 : Nat) : Int).toNat (t ++ 10 :: r) = t ++ [10] := by
    rw [show t ++ 10 :: r = (t ++ [10]) ++ r by simp, show ((t.length + 1 : Nat) : Int).toNat = (t ++ [10]).length by simp, List.take_left]
  rw [bif_dt (by simp; omega), bif_dt (by simp), et, trimSuf_eq _ _ (by simp; omega), Option.bind_some, if_pos (by simp), List.dropLast_concat, bif_dt (by omega), bif_dt (by simp), trimSuf_eq _ _ (by omega), Option.bind_some]
  unfold lnO lnE
  rw [if_pos rfl]
  by_cases q : t.getLast? = some 13
  · rw [if_pos q, if_pos q]
    revert q h hb ho
    rcases List.eq_nil_or_concat t with rfl | ⟨u, c, rfl⟩
    · intro _ _ _ q; cases q
    · rw [List.concat_eq_append]
      intro h hb ho q
      have : c = 13 := by simpa using q
      subst this
      simp only [List.length_append, List.length_cons, List.length_nil] at h hb ho
      rw [List.dropLast_concat]
      have := ln_p2 fu hfu r0 u [13, 10] r m16 out (by omega) (by simp; omega) (by simp; omega)
      have e1 : (u ++ [(13 : UInt8)]).length + 1 = u.length + ([13, 10] : List UInt8).length := by simp
      have e2 : u ++ [(13 : UInt8)] ++ 10 :: r = u ++ [13, 10] ++ r := by simp
      rw [e1, e2]
      exact this
  · rw [if_neg q, if_neg q]
    have := ln_p2 fu hfu r0 t [10] r m16 out (by omega) (by simp; omega) (by simp; omega)
    simpa using this
theorem ln_false (fu : Nat) (hfu : 3 ≤ fu) (r0 : List UInt8 → (Int × Int) → List UInt8 → Option ((Int × Int) × List UInt8)) (t : List UInt8) (h10 : ∀ x ∈ t, x ≠ 10) (m16 : Int × Int) (out : List UInt8) (h : t.length < fu) (hb : t.length < 1000000000) (ho : out.length + t.length ≤ 2000000000) :
    F_quoted_Lenient_p1 fu r0 t (t.length : Int) m16 out = r0 [] m16 (out ++ lnO t false) := by
  unfold F_quoted_Lenient_p1
  have e1 : List.take (t.length : Int).toNat t = t := by simp
  have hn : t.getLast? ≠ some 10 := by
    intro q
    exact h10 10 (List.mem_of_getLast? q) rfl
  rw [bif_dt (by omega), bif_dt (by simp), e1, trimSuf_eq _ _ hb, Option.bind_some, if_neg hn, bif_df (by omega)]
  have := ln_p2 fu hfu r0 t [] [] m16 out h (by simp; omega) (by simp; omega)
  simpa [lnO, lnE] using this
theorem lnO_len (t : List UInt8) (nl : Bool) : (lnO t nl).length ≤ t.length + nl.toNat := by
  unfold lnO lnT lnE
  have key : ∀ u e : List UInt8, (if (rtrim u).getLast? = some 61 then dq (rtrim u).dropLast else dq (rtrim u) ++ e).length ≤ u.length + e.length := by
    intro u e
    have h1 := rtrim_len u
    split
    · have := dq_len _ (rtrim u).dropLast (Nat.le_refl _)
      rw [List.length_dropLast] at this; omega
    · have := dq_len _ (rtrim u) (Nat.le_refl _)
      rw [List.length_append]; omega
  refine Nat.le_trans (key _ _) ?_
  cases nl with
  | false => simp
  | true =>
    rw [if_pos rfl]
    by_cases q : t.getLast? = some 13
    · rw [if_pos q]
      have : 0 < t.length := by
        cases t with
        | nil => cases q
        | cons _ _ => simp
      simp; omega
    · rw [if_neg q]; simp
theorem qlen_go (fu n : Nat) (hfu : 3 ≤ fu) (m16 : Int × Int) : ∀ (s out : List UInt8), s.length < n → s.length < fu → s.length < 100000000 → out.length + s.length ≤ 1000000000 →
    F_quoted_Lenient_p0 fu n s m16 out = some ((0, 0), out ++ qm [] s) := by
  induction n with
  | zero => intro s out h; exact absurd h (by omega)
  | succ n ih =>
    intro s out h hf hb ho
    rw [F_quoted_Lenient_p0, F_quoted_Lenient_b0]
    rcases split10 s with ⟨t, r, rfl, h10⟩ | h10
    · simp only [List.length_append, List.length_cons] at h hf hb ho
      have hlen := lnO_len t true
      simp only [Bool.toNat_true] at hlen
      rw [bif_dt (by simp; omega), show F_bytes_IndexByte (t ++ 10 :: r) 10 = some (Lib.indexByte (t ++ 10 :: r) 10) from rfl, Option.bind_some, iB_at t r h10, nx_nat _ (by omega), bif_eq, if_neg (by omega)]
      rw [ln_true fu hfu _ t r m16 out (by omega) (by omega) (by omega), ih r _ (by omega) (by omega) (by omega) (by rw [List.length_append]; omega), qm_line t r h10, List.append_assoc]
    · cases s with
      | nil => rw [bif_df (by simp)]; simp [F_basic_None, show qm [] [] = [] from rfl]
      | cons c s =>
        have hlen := lnO_len (c :: s) false
        simp only [Bool.toNat_false] at hlen
        rw [bif_dt (by simp <;> omega), show F_bytes_IndexByte (c :: s) 10 = some (Lib.indexByte (c :: s) 10) from rfl, Option.bind_some, iB_no _ h10, bif_eq, if_pos (by decide)]
        rw [ln_false fu hfu _ (c :: s) h10 m16 out hf (by omega) (by omega)]
        have hn : 0 < n := by simp only [List.length_cons] at h; omega
        rw [ih [] _ (by simpa using hn) (by simp; omega) (by simp) (by rw [List.length_append]; simp only [List.length_nil]; omega), qm_last _ h10]
        have : qm [] [] = [] := rfl
        rw [this, List.append_nil]
theorem qlen_eq (fu : Nat) (s : List UInt8) (hf : s.length + 3 < fu) (hb : s.length ≤ 48000) : F_quoted_Lenient fu s = some ((0, 0), qm [] s) := by
  unfold F_quoted_Lenient
  rw [bif_df (by omega)]
  have := qlen_go fu fu (by omega) (0, 0) s [] (by omega) (by omega) (by omega) (by simp; omega)
  rw [List.nil_append] at this
  exact this
end Go.Sym.Tr
/- The document's LooseQuoted in plain words. -/
namespace Go.Sym.Tr

theorem hvI_some (a b : UInt8) : hx a b = none ∨ ∃ x y : UInt8, hvI a = (x.toNat : Int) ∧ hvI b = (y.toNat : Int) ∧ x.toNat < 16 ∧ y.toNat < 16 ∧ hx a b = some (16 * x + y) := by
  unfold hx hvI
  cases ha : hv a with
  | none => exact .inl rfl
  | some x =>
    cases hb : hv b with
    | none => exact .inl rfl
    | some y => exact .inr ⟨x, y, rfl, rfl, hv16 a x ha, hv16 b y hb, rfl⟩
theorem hvI_none (a b : UInt8) (h : hx a b = none) : ¬ (0 ≤ hvI a ∧ 0 ≤ hvI b) := by
  unfold hx at h
  unfold hvI
  cases ha : hv a with
  | none => intro q; have := q.1; simp at this
  | some x =>
    cases hb : hv b with
    | none => intro q; have := q.2; simp at this
    | some y => rw [ha, hb] at h; cases h
theorem idx3 (pre : List UInt8) (c a b : UInt8) (r : List UInt8) : idx (pre ++ c :: a :: b :: r) ((pre.length + 1 : Nat) : Int) = some a ∧ idx (pre ++ c :: a :: b :: r) ((pre.length + 2 : Nat) : Int) = some b := by
  constructor
  · have := idx_mid (pre ++ [c]) a (b :: r)
    simpa using this
  · have := idx_mid (pre ++ [c, a]) b r
    simpa using this
theorem rtrim_pre (u : List UInt8) : ∃ w, u = rtrim u ++ w := by
  unfold rtrim
  refine ⟨(u.reverse.takeWhile bl).reverse, ?_⟩
  rw [← List.reverse_append, List.takeWhile_append_dropWhile, List.reverse_reverse]
end Go.Sym.Tr
/- The laws of transfer.Decode, of the round trip and of the chosen encoding, in plain words. -/
namespace Go.Sym.Tr

/-- what transfer.Decode hands back -/
def decR (b name : List UInt8) : (Int × Int) × List UInt8 :=
  if cod name = -1 then ((18, -3), []) else if 12000 < b.length then ((1, -1), []) else
  if cod name = 0 then ((0, 0), b) else if cod name = 1 then ((0, 0), b) else
  if cod name = 2 then ((0, 0), by8 (dbits b)) else ((0, 0), qm [] b)
theorem decode_eq (fu : Nat) (b name : List UInt8) (hf : 100000 + name.length < fu) (hn : name.length ≤ maxLen) : F_transfer_Decode fu b name = some (decR b name) := by
  unfold F_transfer_Decode F_transfer_valid
  rw [find_eq fu name (by omega) (by omega) hn]
  simp only [Option.bind_some, F_basic_Fault, F_basic_None, F_basic_Failed]
  unfold decR
  rcases cod_cases name with h | h | h | h | h <;> rw [h]
  · by_cases hl : 12000 < b.length
    · have hi : (12000 : Int) < (b.length : Int) := by omega
      simp [sumK, hl, hi]
    · have hi : ¬ (12000 : Int) < (b.length : Int) := by omega
      simp [sumK, hl, hi, copied_eq b (by omega)]
  · by_cases hl : 12000 < b.length
    · have hi : (12000 : Int) < (b.length : Int) := by omega
      simp [sumK, hl, hi]
    · have hi : ¬ (12000 : Int) < (b.length : Int) := by omega
      simp [sumK, hl, hi, copied_eq b (by omega)]
  · by_cases hl : 12000 < b.length
    · have hi : (12000 : Int) < (b.length : Int) := by omega
      simp [sumK, hl, hi]
    · have hi : ¬ (12000 : Int) < (b.length : Int) := by omega
      simp [sumK, hl, hi, lenient_eq fu b (by omega) (by omega)]
  · by_cases hl : 12000 < b.length
    · have hi : (12000 : Int) < (b.length : Int) := by omega
      simp [sumK, hl, hi]
    · have hi : ¬ (12000 : Int) < (b.length : Int) := by omega
      simp [sumK, hl, hi, qlen_eq fu b (by omega) (by omega)]
  · simp [sumK]
/-- what is encoded and not too long is decoded again -/
theorem dec_enc (b name : List UInt8) (h0 : (encR b name).1.1 = 0) (hl : (encR b name).2.length ≤ 12000) : decR (encR b name).2 name = ((0, 0), b) := by
  revert h0 hl
  unfold encR
  rcases cod_cases name with h | h | h | h | h <;> rw [h]
  · by_cases k : 12000 < b.length
    · simp [k]
    · by_cases q : 0 ≤ refd b false
      · simp [k, q]
      · simp [k, q, decR, h]
  · by_cases k : 12000 < b.length
    · simp [k]
    · by_cases q : 0 ≤ refd b true
      · simp [k, q]
      · simp [k, q, decR, h]
  · by_cases k : 12000 < b.length
    · simp [k]
    · intro _ hl
      simp [k] at hl
      have hl' : ¬ 12000 < (lines76 (e64 b)).length := by omega
      simp [k, decR, h, hl', by8_e64]
  · by_cases k : 12000 < b.length
    · simp [k]
    · intro _ hl
      simp [k] at hl
      have hl' : ¬ 12000 < (qe 0 b).length := by omega
      simp [k, decR, h, hl', qm_quoted]
  · simp
theorem enc_fault (b name : List UInt8) (h0 : (encR b name).1.1 ≠ 0) : (encR b name).2 = [] := by
  revert h0
  unfold encR
  rcases cod_cases name with h | h | h | h | h <;> rw [h]
  · by_cases k : 12000 < b.length
    · simp [k]
    · by_cases q : 0 ≤ refd b false <;> simp [k, q]
  · by_cases k : 12000 < b.length
    · simp [k]
    · by_cases q : 0 ≤ refd b true <;> simp [k, q]
  · by_cases k : 12000 < b.length <;> simp [k]
  · by_cases k : 12000 < b.length <;> simp [k]
  · simp
theorem cod7 : cod n7 = 0 := by decide
theorem cod64 : cod n64 = 2 := by decide
theorem codqp : cod nqp = 3 := by decide
/-- the name that transfer.Choose hands back -/
def chosen (b : List UInt8) : List UInt8 := if refd b false < 0 then n7 else if (lines76 (e64 b)).length < (qe 0 b).length then n64 else nqp
theorem chosen_len (b : List UInt8) : (chosen b).length ≤ 20 := by
  unfold chosen
  split
  · decide
  · split <;> decide
/-- the chosen encoding's result is permitted -/
theorem chosen_fits (b : List UInt8) (hl : b.length ≤ 12000) : (encR b (chosen b)).1.1 = 0 ∧ ((encR b (chosen b)).2.length ≤ 12000 → encR (encR b (chosen b)).2 n7 = ((0, 0), (encR b (chosen b)).2)) := by
  have k : ¬ 12000 < b.length := by omega
  unfold chosen
  by_cases h1 : refd b false < 0
  · rw [if_pos h1]
    have e : encR b n7 = ((0, 0), b) := by
      unfold encR
      rw [cod7]
      simp [k, show ¬ 0 ≤ refd b false by omega]
    rw [e]; exact ⟨rfl, fun _ => e⟩
  · rw [if_neg h1]
    by_cases h2 : (lines76 (e64 b)).length < (qe 0 b).length
    · rw [if_pos h2]
      have e : encR b n64 = ((0, 0), lines76 (e64 b)) := by
        unfold encR
        rw [cod64]; simp [k]
      rw [e]
      refine ⟨rfl, fun hx => ?_⟩
      have hx' : ¬ 12000 < (lines76 (e64 b)).length := by simpa using hx
      unfold encR
      rw [cod7, okl_refd _ (okl_e64 b) (by omega)]
      simp [hx']
    · rw [if_neg h2]
      have e : encR b nqp = ((0, 0), qe 0 b) := by
        unfold encR
        rw [codqp]; simp [k]
      rw [e]
      refine ⟨rfl, fun hx => ?_⟩
      have hx' : ¬ 12000 < (qe 0 b).length := by simpa using hx
      unfold encR
      rw [cod7, okl_refd _ (okl_qe _ b 0 (Nat.le_refl _) (by omega)) (by omega)]
      simp [hx']
end Go.Sym.Tr
/- What a reader sees of a part without parts: plain facts. -/
namespace Go.Sym

abbrev TP : Type := Tree (List (Bs × Bs) × Bs)
theorem basicBody_eq (fu : Nat) (s : Bs) (h : s.length < fu) (hb : s.length < 100000000) : F_basic_Body fu s = some (bs 0 s) := by
  unfold F_basic_Body
  have := body_go fu fu [] s 0 h (by simpa using hb) (by omega)
  exact this
theorem validate_leaf (fu : Nat) (hf : 1 ≤ fu) (l : List (Bs × Bs)) (b : Bs) (e : Int) (hc : F_parts_check fu (Tree.node (l, b) [], 0) = some e) :
    F_parts_Validate fu (Tree.node (l, b) []) = some (if e = 0 then (0, 0) else (e, 0)) := by
  obtain ⟨k, rfl⟩ : ∃ k, fu = k + 1 := ⟨fu - 1, by omega⟩
  have w1 : w64 ((0 : Int) + 1) = 1 := by decide
  have v0 : F_parts_each_1_1_p0 (F_parts_each_1_1_n (k + 1) k) (k + 1) (k + 1) 0 [] 0 0 (w64 (0 + 1)) (0, 0) false = some (.inr (1, ((0, 0), false))) := by
    rw [F_parts_each_1_1_p0, F_parts_each_1_1_b0, w1]; rfl
  have v1 : F_parts_each_1_1_v1_p0 (F_parts_each_1_1_v1_n (k + 1) k) (k + 1) (k + 1) 0 [] 0 0 (w64 (0 + 1)) (0, 0) = some (.inr (1, (0, 0))) := by
    rw [F_parts_each_1_1_v1_p0, F_parts_each_1_1_v1_b0, w1]; rfl
  have e0 : F_parts_each_1 (k + 1) (Tree.node (l, b) []) (0, 0) false = some (.inr (Tree.node (l, b) [], ((0, 0), false))) := by
    unfold F_parts_each_1 F_parts_each_1_1 F_parts_each_1_1_n F_parts_each_1_1_b F_parts_Validate_r0
    simp only [Tree.val, Tree.kids]
    rw [show decide ((40 : Int) ≤ 0) = false from rfl]
    simp only [cond_false, show decide ((8 : Int) < 0) = false from rfl, Option.bind_some, sumK, List.length_nil]
    rw [show ((0 : Nat) : Int) = 0 from rfl, v0]; rfl
  have e1 : F_parts_each_1_v1 (k + 1) (Tree.node (l, b) []) (0, 0) = some (if e = 0 then .inr (Tree.node (l, b) [], (0, 0)) else .inl (Tree.node (l, b) [], (e, 0))) := by
    unfold F_parts_each_1_v1 F_parts_each_1_1_v1 F_parts_each_1_1_v1_n F_parts_each_1_1_v1_b F_parts_Validate_r1
    simp only [Tree.val, Tree.kids]
    rw [hc, Option.bind_some, bif_ne]
    by_cases h : e = 0
    · rw [if_neg (by simp [h]), if_pos h]
      simp only [Option.bind_some, sumK, List.length_nil]
      rw [show ((0 : Nat) : Int) = 0 from rfl, v1]; rfl
    · rw [if_pos h, if_neg h]; rfl
  unfold F_parts_Validate F_parts_each
  simp only [Option.bind_some, Tree.val, Tree.kids]
  rw [e0]
  simp only [Option.bind_some, sumK, cond_false]
  rw [e1]
  by_cases h : e = 0
  · rw [if_pos h, if_pos h]; rfl
  · rw [if_neg h, if_neg h]; rfl
theorem inner_none (fu : Nat) (l : List (Bs × Bs)) (b : Bs) (d : Int) (ht : F_parts_Type fu l = some (.inl ([], ([], (0, false))))) : F_parts_inner fu l b d = some [] := by
  unfold F_parts_inner F_parts_boundary
  rw [ht]; rfl
theorem check_leaf (fu : Nat) (l : List (Bs × Bs)) (b : Bs) (hfu : 90000000 ≤ fu) (hs : SmF l) (hl : (fieldsS l).1 = 0) (ht : F_parts_Type fu l = some (.inl ([], ([], (0, false))))) :
    F_parts_check fu (Tree.node (l, b) [], 0) = some (if 12000 < b.length then 1 else bs 0 b) := by
  show ((F_header_Validate fu l).bind fun x1 => (F_basic_Failed x1).bind fun x2 => bif x2 then some x1.1 else bif decide ((0 : Int) < (([] : List TP).length : Int)) then (F_parts_whole fu (Tree.node (l, b) [])).bind fun x3 => some x3
    else bif decide ((12000 : Int) < (b.length : Int)) then some (1 : Int) else (F_basic_Body fu b).bind fun x4 => bif x4 != (0 : Int) then some x4 else (F_parts_inner fu l b 0).bind fun x5 => bif decide ((0 : Int) < (x5.length : Int)) then some (5 : Int) else some (0 : Int)) = _
  rw [hval_eq fu hfu l hs, Option.bind_some, failed_eq, Option.bind_some, bif_ne, if_neg (by simp [hl]), bif_df (by simp), bif_d]
  by_cases h : 12000 < b.length
  · rw [if_pos (by omega), if_pos h]
  · rw [if_neg (by omega), if_neg h, basicBody_eq fu b (by omega) (by omega), Option.bind_some, bif_ne]
    by_cases h0 : bs 0 b = 0
    · rw [if_neg (by simp [h0]), inner_none fu l b 0 ht, h0]; rfl
    · rw [if_pos h0]
abbrev nTx : Bs := [116, 101, 120, 116]
abbrev nPl : Bs := [112, 108, 97, 105, 110]
theorem typeOf_none (fu : Nat) (l : List (Bs × Bs)) (b : Bs) (ht : F_parts_Type fu l = some (.inl ([], ([], (0, false))))) : F_view_typeOf fu (Tree.node (l, b) []) = some (nTx, (nPl, [])) := by
  unfold F_view_typeOf
  simp only [Tree.val]
  rw [ht]; rfl
theorem first_leaf (fu : Nat) (hfu : 100 ≤ fu) (l : List (Bs × Bs)) (b : Bs) (ht : F_parts_Type fu l = some (.inl ([], ([], (0, false))))) : F_view_first fu (Tree.node (l, b) []) nTx nPl = some (Tree.node (l, b) [], true) := by
  obtain ⟨k, rfl⟩ : ∃ k, fu = k + 1 := ⟨fu - 1, by omega⟩
  have r3 : F_view_first_r0 (k + 1) 0 l b [] nTx nPl (Tree.node ([], []) []) false = some (.inl (nTx, (nPl, (Tree.node (l, b) [], true)))) := by
    unfold F_view_first_r0
    rw [typeOf_none (k + 1) l b ht, Option.bind_some]
    simp only [List.length_nil]
    rw [show (((0 : Nat) : Int) == 0) = true from rfl, cond_true, bsame_eq (k + 1) nTx nTx (by simp; omega) (by simp; omega) (by decide) (by decide), Option.bind_some, bsame_eq (k + 1) nPl nPl (by simp; omega) (by simp; omega) (by decide) (by decide)]
    rfl
  unfold F_view_first F_parts_Each F_parts_Each_1 F_parts_each F_parts_each_1_v2 F_parts_each_1_1_v2 F_parts_each_1_1_v2_n F_parts_each_1_1_v2_b F_parts_Each_1_r0
  simp only [Option.bind_some, Tree.val, Tree.kids]
  rw [r3]; rfl
theorem par0 : F_media_Param 100000000 (nTx, (nPl, [])) [99, 104, 97, 114, 115, 101, 116] = some ([], (false, (0, 0))) := by kernel_rfl
theorem find0 : F_charset_find 100000000 [] = some (.inr (.inr (.inr ([], false)))) := by kernel_rfl
theorem find8 : F_charset_find 100000000 [117, 116, 102, 56] = some (.inr (.inl ([117, 116, 102, 56], true))) := by kernel_rfl
theorem rtext_len : ∀ l : List Int, (rtext l).length ≤ 4 * l.length
  | [] => by simp [rtext]
  | x :: l => by
    have := rtext_len l
    have hx : (renc x).length ≤ 4 := by
      unfold renc Utf8.encode
      simp only []
      repeat' split
      all_goals simp
    have e : rtext (x :: l) = renc x ++ rtext l := by simp [rtext]
    rw [e, List.length_append, List.length_cons]; omega
theorem rvals_len (s : Bs) : (rvals s).length ≤ s.length := rvalsAt_len s s.length 0
/-- what is shown of a text's bytes -/
def shown (b : Bs) : Bs := Lib.replaceAll (rtext (rvals b)) [13, 10] [10]
theorem vtext_leaf (l : List (Bs × Bs)) (b c : Bs) (ht : F_parts_Type 100000000 l = some (.inl ([], ([], (0, false))))) (hc : F_view_Content 100000000 (Tree.node (l, b) []) = some c) (hl : c.length ≤ 12000) :
    F_view_text 100000000 (Tree.node (l, b) []) = some (shown c) := by
  have h1 := rtext_len (rvals c)
  have h2 := rvals_len c
  unfold F_view_text
  simp only [Tree.val, Tree.kids]
  rw [typeOf_none _ l b ht, Option.bind_some, par0, Option.bind_some, hc, Option.bind_some]
  have d0 : F_charset_Decode 100000000 [] c = some ([], (18, -2)) := by
    unfold F_charset_Decode
    rw [bif_df (by omega), find0]; rfl
  have d8 : F_charset_Decode 100000000 [117, 116, 102, 56] c = some (rtext (rvals c), (0, 0)) := by
    unfold F_charset_Decode
    rw [bif_df (by omega), find8]
    simp only [Option.bind_some, sumK]
    rw [bif_nT]
    unfold F_charset_find_1
    rw [bif_dt (by omega)]; rfl
  rw [d0, Option.bind_some, show ((18 : Int) == 18) = true from rfl, cond_true, d8, Option.bind_some]
  unfold F_strings_ReplaceAll
  rw [bif_dt ⟨by decide, by simp only []; omega, by simp only [List.length_cons, List.length_nil]; omega⟩]
  rfl
/-- the text of a part without parts and without a media type -/
theorem Text_leaf (l : List (Bs × Bs)) (b c : Bs) (hs : SmF l) (hl : (fieldsS l).1 = 0) (ht : F_parts_Type 100000000 l = some (.inl ([], ([], (0, false))))) (hc : F_view_Content 100000000 (Tree.node (l, b) []) = some c) (hcl : c.length ≤ 12000) :
    F_view_Text 100000000 (Tree.node (l, b) []) = some (if 12000 < b.length then ([], (1, 0)) else if bs 0 b = 0 then (shown c, (0, 0)) else ([], (bs 0 b, 0))) := by
  unfold F_view_Text
  simp only [Tree.val, Tree.kids]
  rw [validate_leaf _ (by omega) l b _ (check_leaf _ l b (by omega) hs hl ht), Option.bind_some, failed_eq, Option.bind_some, bif_ne]
  by_cases h : 12000 < b.length
  · simp only [h, if_true]; rfl
  · simp only [h, if_false]
    by_cases h0 : bs 0 b = 0
    · rw [h0]
      simp only [if_true]
      rw [if_neg (by decide), first_leaf _ (by omega) l b ht, Option.bind_some, cond_true, vtext_leaf l b c ht hc hcl]; rfl
    · rw [if_neg h0, if_neg h0, if_pos h0]
end Go.Sym
/- ViewPlainUnchanged, ViewEncodingIrrelevant: the plain laws. -/
namespace Go.Sym
set_option maxRecDepth 100000 in
theorem vex_ok : F_W2_viewExample 100000000 = some true := by kernel_rfl
theorem wr_bs (m : UInt8) (n : Nat) : ∀ (s : Bs) (col i : Nat), s.length ≤ n → col ≤ 998 → Tr.wr m col i s = -1 → bs col s = 0 := by
  induction n with
  | zero =>
    intro s col i h _ _
    cases s with
    | nil => rw [bs_nil]
    | cons c r => simp at h
  | succ n ih =>
    intro s col i h hc hw
    cases s with
    | nil => rw [bs_nil]
    | cons c r =>
      simp only [List.length_cons] at h
      rw [Tr.wr_cons] at hw
      rw [bs_cons, show isCl c r = (c == 13 && r.head? == some 10) from rfl]
      by_cases h1 : (c == 13 && r.head? == some 10) = true
      · rw [if_pos h1] at hw
        rw [if_pos h1]
        exact ih r.tail 0 _ (by rw [List.length_tail]; omega) (by omega) hw
      · rw [if_neg h1] at hw
        rw [if_neg h1]
        by_cases h2 : c = 0 ∨ c = 13 ∨ c = 10 ∨ m < c ∨ col = 998
        · rw [if_pos h2] at hw; omega
        · rw [if_neg h2] at hw
          simp only [not_or] at h2
          rw [if_neg (by simp [h2.2.1, h2.2.2.1]), if_neg (by omega)]
          exact ih r (col + 1) _ (by omega) (by omega) hw
theorem okl_bs (s : Bs) (h : Tr.OkL 0 s) : bs 0 s = 0 := wr_bs 127 s.length s 0 0 (Nat.le_refl _) (by omega) (Tr.okl_wr h 0 (by omega))
/-- the body of an encoding is a body of a message -/
theorem enc_bs (b name : Bs) (h0 : (Tr.encR b name).1.1 = 0) : bs 0 (Tr.encR b name).2 = 0 ∧ b.length ≤ 12000 ∧ Tr.cod name ≠ -1 := by
  revert h0
  unfold Tr.encR
  have dead : ∀ x : Int, (x = 0 ∧ 0 ≤ x → False) → True := fun _ _ => trivial
  have ref : ∀ e, ¬ 0 ≤ Tr.refd b e → b.length ≤ 12000 → bs 0 b = 0 := fun e h hl => by
    have := Tr.refd_lo b e (by omega)
    have h1 : Tr.refd b e = -1 := by omega
    exact wr_bs _ b.length b 0 0 (Nat.le_refl _) (by omega) h1
  rcases Tr.cod_cases name with h | h | h | h | h <;> rw [h]
  · rw [if_neg (by decide)]
    by_cases hl : 12000 < b.length
    · rw [if_pos hl]; intro h0; cases h0
    · rw [if_neg hl, if_pos rfl]
      by_cases hr : 0 ≤ Tr.refd b false
      · rw [if_pos hr]; intro h0; cases h0
      · rw [if_neg hr]; exact fun _ => ⟨ref false hr (by omega), by omega, by decide⟩
  · rw [if_neg (by decide)]
    by_cases hl : 12000 < b.length
    · rw [if_pos hl]; intro h0; cases h0
    · rw [if_neg hl, if_neg (by decide), if_pos rfl]
      by_cases hr : 0 ≤ Tr.refd b true
      · rw [if_pos hr]; intro h0; cases h0
      · rw [if_neg hr]; exact fun _ => ⟨ref true hr (by omega), by omega, by decide⟩
  · rw [if_neg (by decide)]
    by_cases hl : 12000 < b.length
    · rw [if_pos hl]; intro h0; cases h0
    · rw [if_neg hl, if_neg (by decide), if_neg (by decide), if_pos rfl]; exact fun _ => ⟨okl_bs _ (Tr.okl_e64 b), by omega, by decide⟩
  · rw [if_neg (by decide)]
    by_cases hl : 12000 < b.length
    · rw [if_pos hl]; intro h0; cases h0
    · rw [if_neg hl, if_neg (by decide), if_neg (by decide), if_neg (by decide)]; exact fun _ => ⟨okl_bs _ (Tr.okl_qe b.length b 0 (Nat.le_refl _) (by omega)), by omega, by decide⟩
  · rw [if_pos rfl]; intro h0; cases h0
abbrev nCte : Bs := [67, 111, 110, 116, 101, 110, 116, 45, 84, 114, 97, 110, 115, 102, 101, 114, 45, 69, 110, 99, 111, 100, 105, 110, 103]
theorem name_map (name L : Bs) (h : L = name.map Tr.lo) (hL : L.all (fun x => x != 0 && x != 9 && x != 10 && x != 13 && x != 32) = true) : ∀ c ∈ name, c ≠ 0 ∧ c ≠ 9 ∧ c ≠ 10 ∧ c ≠ 13 ∧ c ≠ 32 := by
  intro c hc
  have h1 : Tr.lo c ∈ L := by rw [h]; exact List.mem_map.2 ⟨c, hc, rfl⟩
  have h2 := List.all_eq_true.1 hL _ h1
  simp only [Bool.and_eq_true, bne_iff_ne, ne_eq] at h2
  obtain ⟨⟨⟨⟨a1, a2⟩, a3⟩, a4⟩, a5⟩ := h2
  exact ⟨fun e => a1 (by rw [e]; rfl), fun e => a2 (by rw [e]; rfl), fun e => a3 (by rw [e]; rfl), fun e => a4 (by rw [e]; rfl), fun e => a5 (by rw [e]; rfl)⟩
theorem name_cod (name : Bs) (h : Tr.cod name ≠ -1) : name.length ≤ 16 ∧ ∀ c ∈ name, c ≠ 0 ∧ c ≠ 9 ∧ c ≠ 10 ∧ c ≠ 13 ∧ c ≠ 32 := by
  unfold Tr.cod at h
  have key : ∀ L : Bs, L.map Tr.lo = name.map Tr.lo → L.length ≤ 16 → (L.map Tr.lo).all (fun x => x != 0 && x != 9 && x != 10 && x != 13 && x != 32) = true → name.length ≤ 16 ∧ ∀ c ∈ name, c ≠ 0 ∧ c ≠ 9 ∧ c ≠ 10 ∧ c ≠ 13 ∧ c ≠ 32 := fun L e hl ha => by
    have := congrArg List.length e
    simp only [List.length_map] at this
    exact ⟨by omega, name_map name _ e ha⟩
  split at h
  · rename_i e; exact key _ e (by decide) (by decide)
  · split at h
    · rename_i e; exact key _ e (by decide) (by decide)
    · split at h
      · rename_i e; exact key _ e (by decide) (by decide)
      · split at h
        · rename_i e; exact key _ e (by decide) (by decide)
        · exact absurd rfl h
theorem name_field (name : Bs) (h : Tr.cod name ≠ -1) : (fieldsS [(nCte, name)]).1 = 0 := by
  obtain ⟨hl, hc⟩ := name_cod name h
  have hb : ∀ c ∈ name, bl c = false := fun c hm => by
    obtain ⟨_, h9, _, _, h32⟩ := hc c hm
    simp [bl, h9, h32]
  have hv : fval name = true := by
    unfold fval edge
    have a1 : name.any ([13, 10, 0] : List UInt8).contains = false := by
      rw [List.any_eq_false]
      intro c hm
      obtain ⟨h0, _, h10, h13, _⟩ := hc c hm
      simp [h0, h10, h13]
    have a2 : name.head?.any bl = false := by
      cases hh : name.head? with
      | none => rfl
      | some c => exact hb c (List.mem_of_mem_head? hh)
    have a3 : name.getLast?.any bl = false := by
      cases hh : name.getLast? with
      | none => rfl
      | some c => exact hb c (List.mem_of_getLast? hh)
    rw [a1, a2, a3]; rfl
  have hf : fcode nCte name = 0 := by
    unfold fcode
    rw [if_pos (by decide), if_neg (by omega), if_pos hv]
  have hfl : flines nCte name = [fline nCte name] := by
    unfold flines
    have : (fline nCte name).length = 27 + name.length := by simp [fline]; omega
    obtain ⟨n, hn⟩ : ∃ n, (fline nCte name).length = n + 1 := ⟨26 + name.length, by omega⟩
    rw [hn, foldL, if_neg (by omega)]
  have hlen : (fline nCte name).length ≤ 998 := by simp [fline]; omega
  unfold fieldsS
  rw [if_neg (by simp)]
  have hs : (foldS nCte name).1.1 = 0 := by
    unfold foldS linesR
    rw [if_pos hf, hfl, long1, if_neg (by omega), long1]
  rw [ff, if_neg (by simp [hs]), ff]
theorem type_nil : F_parts_Type 100000000 [] = some (.inl ([], ([], (0, false)))) := by kernel_rfl
theorem same_cte_ct : F_basic_Same 100000000 nCte [67, 111, 110, 116, 101, 110, 116, 45, 84, 121, 112, 101] = some false := by kernel_rfl
theorem same_cte : F_basic_Same 100000000 nCte nCte = some true := by kernel_rfl
theorem type_cte (name : Bs) : F_parts_Type 100000000 [(nCte, name)] = some (.inl ([], ([], (0, false)))) := by
  have key : ∀ fu n : Nat, F_basic_Same fu nCte [67, 111, 110, 116, 101, 110, 116, 45, 84, 121, 112, 101] = some false → F_parts_Type_p0 fu (n + 2) [(nCte, name)] (-1) [(nCte, name)] 1 0 [] [] = some (.inl ([], ([], (0, false)))) := by
    intro fu n hs
    rw [F_parts_Type_p0, F_parts_Type_b0, bif_dt (by decide)]
    simp only [show idx [(nCte, name)] 0 = some (nCte, name) from rfl, Option.bind_some]
    rw [hs, Option.bind_some, cond_false]
    unfold F_parts_Type_p1
    rw [show w64 ((0 : Int) + 1) = 1 by decide, F_parts_Type_p0, F_parts_Type_b0, bif_df (by decide), bif_dt (by decide)]
  exact key 100000000 99999998 same_cte_ct
theorem content_cte (name b : Bs) (hn : name.length ≤ 1048576) (h : Tr.cod name ≠ -1) : F_view_Content 100000000 (Tree.node ([(nCte, name)], b) []) = some (Tr.decR b name).2 := by
  have hd : (Tr.decR b name).1.1 ≠ 18 := by
    unfold Tr.decR
    rw [if_neg h]
    repeat' split
    all_goals (simp only []; decide)
  have key : ∀ fu n : Nat, F_basic_Same fu nCte nCte = some true → F_transfer_Decode fu b name = some (Tr.decR b name) → F_view_Content_p0 fu (n + 1) [(nCte, name)] 1 0 (Tree.node ([(nCte, name)], b) []) = some (Tr.decR b name).2 := by
    intro fu n hs hdec
    rw [F_view_Content_p0, F_view_Content_b0, bif_dt (by decide)]
    simp only [show idx [(nCte, name)] 0 = some (nCte, name) from rfl, Option.bind_some]
    rw [hs, Option.bind_some, bif_nT]
    simp only [Tree.val]
    rw [hdec, Option.bind_some, bif_ne, if_pos hd]
  exact key 100000000 99999999 same_cte (Tr.decode_eq 100000000 b name (by omega) (by simp only [maxLen]; omega))
theorem content_nil (b : Bs) : F_view_Content 100000000 (Tree.node ([], b) []) = some (Tr.decR b Tr.n7).2 := by
  have key : ∀ fu n : Nat, F_transfer_Decode fu b [55, 98, 105, 116] = some (Tr.decR b Tr.n7) → F_view_Content_p0 fu (n + 1) [] 0 0 (Tree.node ([], b) []) = some (Tr.decR b Tr.n7).2 := by
    intro fu n hdec
    rw [F_view_Content_p0, F_view_Content_b0, bif_df (by decide)]
    simp only [Tree.val]
    rw [hdec, Option.bind_some]
  exact key 100000000 99999999 (Tr.decode_eq 100000000 b Tr.n7 (by decide) (by decide))
theorem decR_len (b name : Bs) (h : (Tr.decR b name).1.1 ≠ 0) : (Tr.decR b name).2 = [] := by
  revert h
  unfold Tr.decR
  repeat' split
  all_goals (intro h; first | rfl | exact absurd rfl h)
theorem SmF_nil : SmF [] := ⟨by decide, fun _ h => by cases h⟩
/-- the text of an encoded body is that of the body -/
theorem Text_enc (b name : Bs) (hn : name.length ≤ 1048576) (h0 : (Tr.encR b name).1.1 = 0) (hl : (Tr.encR b name).2.length ≤ 12000) :
    F_view_Text 100000000 (Tree.node ([(nCte, name)], (Tr.encR b name).2) []) = some (shown b, (0, 0)) := by
  obtain ⟨h1, h2, h3⟩ := enc_bs b name h0
  have hc := content_cte name (Tr.encR b name).2 hn h3
  rw [Tr.dec_enc b name h0 hl] at hc
  have hs : SmF [(nCte, name)] := ⟨by simp, fun x hx => by
    rw [List.mem_singleton] at hx; subst hx
    exact ⟨by simp, by simp only; omega⟩⟩
  rw [Text_leaf _ _ b hs (name_field name h3) (type_cte name) hc h2, if_neg (by omega), if_pos h1]
theorem law_encirr (b a c : Bs) (ha : a.length ≤ 1048576) (hc : c.length ≤ 1048576) : F_W2_ViewEncodingIrrelevant 100000000 b a c = some true := by
  unfold F_W2_ViewEncodingIrrelevant
  rw [vex_ok, Option.bind_some, bif_nT, Tr.encode_eq _ b a (by omega) (by simp only [maxLen]; omega), Option.bind_some, Tr.encode_eq _ b c (by omega) (by simp only [maxLen]; omega), Option.bind_some, bif_ne, bif_ne]
  have t0 : ∀ (x y : Bs) (z w : Bs) (f : Int × Int), (f.1 ≠ 0 → z = []) → F_W2_ViewEncodingIrrelevant_p0 100000000 x y true z f w = some true := by
    intro x y z w f hf
    unfold F_W2_ViewEncodingIrrelevant_p0
    rw [cond_true, bif_eq]
    by_cases h : f.1 = 0
    · rw [if_pos h]
    · rw [if_neg h, hf h]; rfl
  by_cases h1 : (Tr.encR b a).1.1 = 0
  · rw [if_neg (by simp [h1])]
    by_cases h2 : (Tr.encR b c).1.1 = 0
    · rw [if_neg (by simp [h2]), bif_d]
      by_cases h3 : 12000 < (Tr.encR b a).2.length
      · rw [if_pos (by omega)]; exact t0 _ _ _ _ _ fun h => absurd h1 h
      · rw [if_neg (by omega)]
        by_cases h4 : 12000 < (Tr.encR b c).2.length
        · rw [show decide ((12000 : Int) < ((Tr.encR b c).2.length : Int)) = true from decide_eq_true (by omega)]
          exact t0 _ _ _ _ _ fun h => absurd h1 h
        · rw [show decide ((12000 : Int) < ((Tr.encR b c).2.length : Int)) = false from decide_eq_false (by omega)]
          unfold F_W2_ViewEncodingIrrelevant_p0 F_W2_ViewEncodingIrrelevant_p1
          have e1 := Text_enc b a ha h1 (by omega)
          have e2 := Text_enc b c hc h2 (by omega)
          rw [cond_false, e1, Option.bind_some, e2, Option.bind_some]
          simp
    · rw [if_pos h2]; exact t0 _ _ _ _ _ fun h => absurd h1 h
  · rw [if_pos h1]; exact t0 _ _ _ _ _ fun h => Tr.enc_fault b a h
theorem law_encirr_bk (x : Bs × Bs × Bs × Unit) (h : bks [.list .byte, .str, .str] x ≤ 1048576) : F_W2_ViewEncodingIrrelevant 100000000 x.1 x.2.1 x.2.2.1 = some true := by
  obtain ⟨b, a, c, _⟩ := x
  have h : (Ty.list .byte).bk b + ((a.length + 1) + ((c.length + 1) + 0)) ≤ 1048576 := h
  exact law_encirr b a c (by omega) (by omega)
end Go.Sym
/- The tables of a row's listed variables, as memory knows them: what a law's claim asks of LC.tab. -/
namespace Go.Sym
open Go.ChangeShapes Go.WideShapes Go.ChangeAt Go.RowKit
variable [LC]

def ieq (a b : Int) : Bool := decide (a = b)
/-- a listed datum is this one -/
def datEq : (τ : Ty) → τ.den → DataW Unit → Bool
  | .int k, x, .lit (.int k' n) => decide (k' = k) && ieq n x
  | .byte, x, .lit (.int k' n) => decide (k' = .u8) && ieq n x.toNat
  | .prod .byte .byte, x, .agg [.lit (.int _ a), .lit (.int _ b)] => ieq a x.1.toNat && ieq b x.2.toNat
  | _, _, _ => false
def datsEq (τ : Ty) : List τ.den → List (DataW Unit) → Bool
  | [], [] => true
  | x :: l, d :: ds => datEq τ x d && datsEq τ l ds
  | _, _ => false
def isU8 (P : Program) (t : TypeId) : Bool := match P.underlying t with
  | some (.int .u8) => Nat.beq (P.cellsOf t) 1
  | _ => false
def elOk (P : Program) (t : TypeId) : Ty → Bool
  | .int k => match P.underlying t with
    | some (.int k') => decide (k' = k)
    | _ => false
  | .byte => match P.underlying t with
    | some (.int .u8) => true
    | _ => false
  | .prod .byte .byte => match P.underlying t with
    | some (.struct fs) => match fs.toList with
      | [f, g] => Nat.beq f.offset 0 && Nat.beq g.offset 1 && isU8 P f.type && isU8 P g.type && Nat.beq (P.cellsOf t) 2
      | _ => false
    | _ => false
  | _ => false
section
variable {P : Program} {w : World} {base : Nat} {sp : Nat → Bool}
omit [LC] in
theorem el_ok {m : Nat} {τ : Ty} {t : TypeId} {cs : List Value} {y : DataW Unit × List MemPlace} {x : τ.den} (ht : elOk P t τ = true) (h : DataW.trod (fun _ => ()) P w base sp false m t cs = some y) (hx : datEq τ x y.1 = true) : Reps (τ.enc x) (Gw w) cs ∧ ∀ v ∈ cs, v.oneCell' = true := by
  unfold elOk at ht
  split at ht
  · rename_i k
    split at ht
    · rename_i k' hu
      have hk : k' = k := of_decide_eq_true ht
      subst hk
      obtain ⟨n, rfl, rfl, _⟩ := DataW.trod_int hu h
      simp only [datEq, ieq, Bool.and_eq_true, decide_eq_true_eq] at hx
      obtain ⟨_, rfl⟩ := hx
      exact ⟨⟨rfl, trivial⟩, fun v hv => by rw [List.mem_singleton] at hv; subst hv; rfl⟩
    · cases ht
  · split at ht
    · rename_i hu
      obtain ⟨n, rfl, rfl, _⟩ := DataW.trod_int hu h
      simp only [datEq, ieq, Bool.and_eq_true, decide_eq_true_eq] at hx
      obtain ⟨_, rfl⟩ := hx
      exact ⟨⟨rfl, trivial⟩, fun v hv => by rw [List.mem_singleton] at hv; subst hv; rfl⟩
    · cases ht
  · split at ht
    · rename_i fs hu
      split at ht
      · rename_i f g hfs
        simp only [Bool.and_eq_true] at ht
        obtain ⟨⟨⟨⟨o1, o2⟩, u1⟩, u2⟩, c2⟩ := ht
        have o1 := Nat.eq_of_beq_eq_true o1
        have o2 := Nat.eq_of_beq_eq_true o2
        have c2 := Nat.eq_of_beq_eq_true c2
        have key : ∀ t, isU8 P t = true → P.underlying t = some (.int .u8) ∧ P.cellsOf t = 1 := fun t h => by
          unfold isU8 at h
          split at h
          · rename_i hu; exact ⟨hu, Nat.eq_of_beq_eq_true h⟩
          · cases h
        obtain ⟨k1, s1⟩ := key _ u1
        obtain ⟨k2, s2⟩ := key _ u2
        obtain ⟨xs, n, rfl, rfl, hl, hxl, hg⟩ := DataW.trod_struct hu h
        have g0 := hg 0 f (by rw [← Array.getElem?_toList, hfs]; rfl)
        have g1 := hg 1 g (by rw [← Array.getElem?_toList, hfs]; rfl)
        have hsz : fs.size = 2 := by rw [← Array.length_toList, hfs]; rfl
        rw [hsz] at hxl
        rw [c2] at hl
        match cs, hl with
        | [a, b], _ =>
          match xs, hxl with
          | [p, q], _ =>
            rw [o1, s1] at g0
            rw [o2, s2] at g1
            obtain ⟨n1, e1, rfl, _⟩ := DataW.trod_int k1 g0
            obtain ⟨n2, e2, rfl, _⟩ := DataW.trod_int k2 g1
            simp only [List.drop_zero, List.take_succ_cons, List.take_zero, List.cons.injEq, and_true] at e1
            simp only [List.drop_succ_cons, List.drop_zero, List.take_succ_cons, List.take_zero, List.cons.injEq, and_true] at e2
            subst e1 e2
            simp only [List.map_cons, List.map_nil, datEq, ieq, Bool.and_eq_true, decide_eq_true_eq] at hx
            obtain ⟨rfl, rfl⟩ := hx
            exact ⟨⟨rfl, rfl, trivial⟩, fun v hv => by
              rcases List.mem_cons.1 hv with rfl | hv
              · rfl
              · rw [List.mem_singleton] at hv; subst hv; rfl⟩
      · cases ht
    · cases ht
  · cases ht
omit [LC] in
theorem dats_get {τ : Ty} : ∀ {l : List τ.den} {ds : List (DataW Unit)}, datsEq τ l ds = true → l.length = ds.length ∧ ∀ (j : Nat) (x : τ.den), l[j]? = some x → ∃ d, ds[j]? = some d ∧ datEq τ x d = true
  | [], [], _ => ⟨rfl, fun j x h => by simp at h⟩
  | [], _ :: _, h => by simp [datsEq] at h
  | _ :: _, [], h => by simp [datsEq] at h
  | y :: l, d :: ds, h => by
    simp only [datsEq, Bool.and_eq_true] at h
    obtain ⟨i1, i2⟩ := dats_get h.2
    refine ⟨by simp [i1], fun j x hx => ?_⟩
    match j with
    | 0 => simp only [List.getElem?_cons_zero, Option.some.injEq] at hx; subst hx; exact ⟨d, rfl, h.1⟩
    | j + 1 => exact i2 j x hx
/-- a table's variable, its row of the list, and its size -/
def rowFit (P : Program) (g : Nat) (τ : Ty) (l : List τ.den) (n : Nat) (d : DataW Unit) : Bool := match (P.globals[g]?).map (·.type) with
  | some t => match P.underlying t, d with
    | some (.array _m E), .agg ds => elOk P E τ && (Nat.beq (P.cellsOf E) τ.sz && (Nat.beq (P.cellsOf t) n && datsEq τ l ds))
    | _, _ => false
  | none => false
omit [LC] in
theorem rowFit_ok {g : Nat} {τ : Ty} {l : List τ.den} {n : Nat} {d : DataW Unit} (h : rowFit P g τ l n d = true) {t : TypeId} {cs : Array Value} {fuel : Nat} {p : List MemPlace} (ht : (P.globals[g]?).map (·.type) = some t)
    (hc : ∃ u fr, w.heap[g]? = some (.cells cs u fr)) (hd : DataW.trod (fun _ => ()) P w base sp false fuel t cs.toList = some (d, p)) :
    cs.size = n ∧ ∀ (j : Nat) (x : τ.den), l[j]? = some x → τ.At (Gw w).imm x g (j * τ.sz) := by
  unfold rowFit at h
  rw [ht] at h
  simp only at h
  split at h
  · rename_i m E ds hu
    simp only [Bool.and_eq_true] at h
    obtain ⟨h1, h2, h3, h4⟩ := h
    have h2 := Nat.eq_of_beq_eq_true h2
    have h3 := Nat.eq_of_beq_eq_true h3
    obtain ⟨xs, m', rfl, e, hl, hxl, hg⟩ := DataW.trod_array hu hd
    simp only [Prod.mk.injEq, DataW.agg.injEq] at e
    obtain ⟨rfl, rfl⟩ := e
    obtain ⟨dl, dg⟩ := dats_get h4
    refine ⟨by rw [← Array.length_toList, hl, h3], fun j x hx => ?_⟩
    obtain ⟨d, hd1, hd2⟩ := dg j x hx
    rw [List.getElem?_map] at hd1
    obtain ⟨y, hy, rfl⟩ := Option.map_eq_some_iff.1 hd1
    have hj : j < m := by rw [← hxl]; exact (List.getElem?_eq_some_iff.1 hy).1
    have := hg j hj
    rw [hy] at this
    obtain ⟨r1, r2⟩ := el_ok h1 this hd2
    refine At_iff.1 (Reps.cells _ _ _ r1 r2 fun i v hv => ?_)
    rw [h2, List.getElem?_take] at hv
    split at hv
    · rw [List.getElem?_drop] at hv
      obtain ⟨u, fr, hh⟩ := hc
      simp only [World.cell?, hh]
      rw [← Array.getElem?_toList]; exact hv
    · cases hv
  · cases h
omit [LC] in
theorem laidVar {laid : List (String × DataW Unit)} {n : String} {d : DataW Unit} : ∀ {l : List (String × DataW Unit)} {ps : List MemPlace}, DataW.LaidVars P w l ps → (n, d) ∈ l →
    ∃ g t cs fuel p, P.globalNamed n = some g ∧ (P.globals[g]?).map (·.type) = some t ∧ (∃ u fr, w.heap[g]? = some (.cells cs u fr)) ∧ DataW.trod (fun _ => ()) P w 0 (fun _ => true) false fuel t cs.toList = some (d, p)
  | [], _, _, h => by cases h
  | (n', d') :: r, ps, hl, h => by
    obtain ⟨g, t, cs, fuel, p, q, h1, h2, h3, h4, h5, _⟩ := hl
    rcases List.mem_cons.1 h with e | h
    · simp only [Prod.mk.injEq] at e
      obtain ⟨rfl, rfl⟩ := e
      refine ⟨g, t, cs, fuel, p, h1, h2, ?_, h4⟩
      unfold World.var? at h3
      rw [h1, Option.bind_some] at h3
      split at h3
      · rename_i c u fr hh
        have := Option.some.inj h3
        subst this
        exact ⟨u, fr, hh⟩
      · cases h3
    · exact laidVar (laid := laid) h5 h
end
/-- all tables, and the variables of interface types -/
def tabFit (P : Program) (laid : List (String × DataW Unit)) (e : Nat × Nat) : Bool := match LC.glob e.1 with
  | some ⟨τ, l⟩ => Nat.blt 0 l.length && laid.any fun x => match P.globalNamed x.1 with
    | some g => Nat.beq g e.1 && rowFit P e.1 τ l e.2 x.2
    | none => false
  | none => false
def ifFit (P : Program) (laid : List (String × DataW Unit)) (g : Nat) : Bool := laid.any fun x => match P.globalNamed x.1 with
  | some g' => Nat.beq g' g && (match (P.globals[g]?).map (·.type) with
    | some t => match P.underlying t, x.2 with
      | some (.interface _), .iface _ _ => true
      | _, _ => false
    | none => false)
  | none => false
theorem htab_of {P : Program} {laid : List (String × DataW Unit)} {W : World} (h : laidMetH P laid W) (hh : (laid.all fun x => x.2.handleName?.isNone) = true)
    (hg : ∀ g τ l, LC.glob g = some ⟨τ, l⟩ → ∃ n, (g, n) ∈ LC.sizes) (hs : LC.sizes.all (tabFit P laid) = true) (hi : LC.ifs.all (ifFit P laid) = true) (hn : ∀ g ∈ LC.ints, ∃ k, W.cell? ⟨g, 0, none⟩ = some (.int .i64 k)) : LC.tab (Gw W).imm W := by
  rw [MakeChecks.laidMetH_plain _ _ _ hh] at h
  obtain ⟨ps, hl, _⟩ := h
  have key : ∀ e ∈ LC.sizes, ∃ τ l, LC.glob e.1 = some ⟨τ, l⟩ ∧ 0 < l.length ∧ ∃ (cs : Array Value) (u : TypeId) (fr : Nat × Nat), W.heap[e.1]? = some (.cells cs u fr) ∧ cs.size = e.2 ∧ ∀ (j : Nat) (x : τ.den), l[j]? = some x → τ.At (Gw W).imm x e.1 (j * τ.sz) := fun e he => by
    have h1 := List.all_eq_true.1 hs e he
    unfold tabFit at h1
    split at h1
    · rename_i τ l hgl
      rw [Bool.and_eq_true] at h1
      obtain ⟨x, hx, h2⟩ := List.any_eq_true.1 h1.2
      split at h2
      · rename_i g hgn
        rw [Bool.and_eq_true] at h2
        have := Nat.eq_of_beq_eq_true h2.1
        subst this
        obtain ⟨g', t, cs, fuel, p, k1, k2, ⟨u, fr, k3⟩, k4⟩ := laidVar (laid := laid) hl (n := x.1) (d := x.2) hx
        rw [hgn] at k1
        have := Option.some.inj k1
        subst this
        obtain ⟨r1, r2⟩ := rowFit_ok h2.2 k2 ⟨u, fr, k3⟩ k4
        exact ⟨τ, l, hgl, Nat.le_of_ble_eq_true h1.1, cs, u, fr, k3, r1, r2⟩
      · cases h2
    · cases h1
  refine ⟨fun g τ l hgl j x hx => ?_, fun g hgi => ?_, fun g hgi => ?_, fun e he => ?_⟩
  · obtain ⟨n, hn⟩ := hg g τ l hgl
    obtain ⟨τ', l', h1, _, cs, u, fr, _, _, h5⟩ := key _ hn
    rw [hgl] at h1
    cases h1
    exact h5 j x hx
  · obtain ⟨k, hk⟩ := hn g hgi
    exact ⟨k, Gw_imm hk rfl⟩
  · have h1 := List.all_eq_true.1 hi g hgi
    obtain ⟨x, hx, h2⟩ := List.any_eq_true.1 h1
    split at h2
    · rename_i g' hgn
      rw [Bool.and_eq_true] at h2
      have := Nat.eq_of_beq_eq_true h2.1
      subst this
      obtain ⟨g2, t, cs, fuel, p, k1, k2, ⟨u, fr, k3⟩, k4⟩ := laidVar (laid := laid) hl (n := x.1) (d := x.2) hx
      rw [hgn] at k1
      have := Option.some.inj k1
      subst this
      have h3 := h2.2
      rw [k2] at h3
      simp only at h3
      split at h3
      · rename_i ms nm d hu hd
        rw [hd] at k4
        obtain ⟨_, u', v, hcs, _, _⟩ := iface_of_trod hu k4
        refine ⟨u', v, Gw_imm ?_ rfl⟩
        simp only [World.cell?, k3]
        rw [← Array.getElem?_toList, hcs]; rfl
      · cases h3
    · cases h2
  · obtain ⟨τ, l, h1, h2, cs, u, fr, h3, h4, h5⟩ := key e he
    refine ⟨?_, cs, u, fr, h3, h4⟩
    have h6 := h5 0 l[0] (by simp [h2])
    have : ∃ o v, (Gw W).imm e.1 o = some v := by
      have hx := List.all_eq_true.1 hs e he
      unfold tabFit at hx
      rw [h1] at hx
      simp only [Bool.and_eq_true] at hx
      obtain ⟨x, _, hx⟩ := List.any_eq_true.1 hx.2
      split at hx
      · rw [Bool.and_eq_true] at hx
        have hx := hx.2
        unfold rowFit at hx
        split at hx
        · split at hx
          · simp only [Bool.and_eq_true] at hx
            have hx := hx.1
            unfold elOk at hx
            split at hx
            · exact ⟨_, _, h6⟩
            · exact ⟨_, _, h6⟩
            · exact ⟨_, _, h6.1⟩
            · cases hx
          · cases hx
        · cases hx
      · cases hx
    exact this
section
variable {H : Type} {enc : TypeId × Value → H}
omit [LC] in
theorem witness_row_shaped {C : Checked} {os : Os} {f : FuncId} {fn : Func} {s : OpenSpec} {conds : List PathCond} {apart : Bool} {laid : List (String × DataW Unit)} (modest : Bool) (w0 : World) (args : Array Value) (hos : w0.os = os)
    (hsh : (w0.forCall (fun _ _ => 0) ⟨#[], args, []⟩).Shaped C.prog) (hok : Input.okWideB C.prog (w0.forCall (fun _ _ => 0) ⟨#[], args, []⟩) f ⟨#[], args, []⟩ = true)
    (hrow : s.preRow enc C.prog fn conds apart laid (w0.forCall (fun _ _ => 0) ⟨#[], args, []⟩).memory args) :
    ∃ (w : World) (tape : Tape) (i : Input), w.os = os ∧ (w.forCall tape i).Shaped C.prog ∧ i.vars = [] ∧ Input.okWide C.prog (w.forCall tape i) .any w.heap.size f i ∧
      s.preRow enc C.prog fn conds apart laid (w.forCall tape i).memory i.args ∧ ({ modest := modest } : Assume).holds C.prog (lone (Frame.enter C.prog f i.args .normal) [] (w.forCall tape i)) :=
  ⟨w0, fun _ _ => 0, ⟨#[], args, []⟩, hos, hsh, (Input.okWide_of_okWideB (base := 0) hok).1, (Input.okWide_of_okWideB hok).2, hrow, by
    simp only [Assume.holds]
    exact ⟨by simp, by simp, fun _ => Modest.zero, by simp, by simp⟩⟩
end
end Go.Sym
