/- What the claim rests on, part 4: gathered texts. -/
import Derived.Test.YtokbiogmemgojaaDoorRows
import Derived.Test.YtokbiogmemgojaaDoorSyA3
/- Plain functions that the Go functions compute: printed by a program out of the translation. -/
namespace Go.Sym
set_option linter.unusedVariables false
/- posthouse/transfer.plain -/
def F_transfer_plain (p0 : List UInt8) (p1 : UInt8) : Option ((List UInt8) × UInt8) :=
  some (p0, p1)
/- posthouse/basic.Lower -/
def F_basic_Lower_b0 (fu : Nat) (r0 : Int → Int → (List UInt8) → Option ((List UInt8))) (s9 : Int) (s10 : Int) (m16 : List UInt8) : Option ((List UInt8)) :=
  bif decide (s10 < s9) then
    bif decide (0 ≤ s10 ∧ s10.toNat < List.length m16) then
    (m16[s10.toNat]?).bind fun y1 =>
    bif decide ((65 : UInt8) ≤ y1) then
      bif decide (y1 ≤ (90 : UInt8)) then
        bif decide (0 ≤ s10 ∧ s10.toNat < List.length m16) then
        (m16[s10.toNat]?).bind fun y2 =>
        r0 s9 (w64 (s10 + (1 : Int))) (List.set m16 s10.toNat ((y1 + (97 : UInt8)) - (65 : UInt8)))
        else none
      else
        r0 s9 (w64 (s10 + (1 : Int))) m16
    else
      r0 s9 (w64 (s10 + (1 : Int))) m16
    else none
  else
    some m16
def F_basic_Lower_p0 (fu : Nat) : Nat → Int → Int → (List UInt8) → Option ((List UInt8))
  | 0, _, _, _ => none
  | n + 1, s9, s10, m16 => F_basic_Lower_b0 fu (F_basic_Lower_p0 fu n) s9 s10 m16
def F_basic_Lower (fu : Nat) (p0 : List UInt8) : Option ((List UInt8)) :=
  bif decide (List.length p0 ≤ maxLen) then
  F_basic_Lower_p0 fu fu (List.length p0 : Int) (0 : Int) p0
  else none
/- posthouse/basic.Same -/
def F_basic_Same (fu : Nat) (p0 : List UInt8) (p1 : List UInt8) : Option Bool :=
  bif (List.length p0 : Int) == (List.length p1 : Int) then
    (F_basic_Lower fu p0).bind fun x1 =>
    (F_basic_Lower fu p1).bind fun x2 =>
    some (x1 == x2)
  else
    some false
/- posthouse/transfer.find -/
abbrev R_transfer_find : Type := ((List UInt8) × Bool × UInt8) ⊕ (((List UInt8) × Bool) ⊕ (((List UInt8) × Bool) ⊕ ((List UInt8) × Bool)))
def F_transfer_find (fu : Nat) (p0 : List UInt8) : Option R_transfer_find :=
  (F_transfer_plain ([55, 98, 105, 116] : List UInt8) (127 : UInt8)).bind fun x1 =>
  (F_transfer_plain ([56, 98, 105, 116] : List UInt8) (255 : UInt8)).bind fun x2 =>
  (F_basic_Same fu x1.1 p0).bind fun x3 =>
  bif x3 then
    some (.inl (x1.1, (true, x1.2)))
  else
    (F_basic_Same fu x2.1 p0).bind fun x4 =>
    bif x4 then
      some (.inl (x2.1, (true, x2.2)))
    else
      (F_basic_Same fu ([98, 97, 115, 101, 54, 52] : List UInt8) p0).bind fun x5 =>
      bif x5 then
        some (.inr (.inl (([98, 97, 115, 101, 54, 52] : List UInt8), true)))
      else
        (F_basic_Same fu ([113, 117, 111, 116, 101, 100, 45, 112, 114, 105, 110, 116, 97, 98, 108, 101] : List UInt8) p0).bind fun x6 =>
        bif x6 then
          some (.inr (.inr (.inl (([113, 117, 111, 116, 101, 100, 45, 112, 114, 105, 110, 116, 97, 98, 108, 101] : List UInt8), true))))
        else
          some (.inr (.inr (.inr (([] : List UInt8), false))))
/- posthouse/basic.Fault -/
def F_basic_Fault (p0 : Int) (p1 : Int) : Option ((Int × Int)) :=
  some (p0, p1)
/- posthouse/basic.None -/
def F_basic_None : Option ((Int × Int)) :=
  some ((0 : Int), (0 : Int))
/- posthouse/transfer.valid -/
abbrev R_transfer_valid : Type := ((List UInt8) × (Int × Int) × UInt8) ⊕ (((List UInt8) × (Int × Int)) ⊕ (((List UInt8) × (Int × Int)) ⊕ ((List UInt8) × (Int × Int))))
def F_transfer_valid (fu : Nat) (p0 : List UInt8) (p1 : List UInt8) : Option R_transfer_valid :=
  (F_transfer_find fu p1).bind fun x1 =>
  sumK x1 (fun a2 =>
    bif !a2.2.1 then
      (F_basic_Fault (18 : Int) (-3 : Int)).bind fun x8 =>
      some (.inl (a2.1, (x8, a2.2.2)))
    else
      bif decide ((12000 : Int) < (List.length p0 : Int)) then
        (F_basic_Fault (1 : Int) (-1 : Int)).bind fun x9 =>
        some (.inl (a2.1, (x9, a2.2.2)))
      else
        (F_basic_None).bind fun x10 =>
        some (.inl (a2.1, (x10, a2.2.2)))) (fun b3 =>
    sumK b3 (fun a4 =>
      bif !a4.2 then
        (F_basic_Fault (18 : Int) (-3 : Int)).bind fun x11 =>
        some (.inr (.inl (a4.1, x11)))
      else
        bif decide ((12000 : Int) < (List.length p0 : Int)) then
          (F_basic_Fault (1 : Int) (-1 : Int)).bind fun x12 =>
          some (.inr (.inl (a4.1, x12)))
        else
          (F_basic_None).bind fun x13 =>
          some (.inr (.inl (a4.1, x13)))) (fun b5 =>
      sumK b5 (fun a6 =>
        bif !a6.2 then
          (F_basic_Fault (18 : Int) (-3 : Int)).bind fun x14 =>
          some (.inr (.inr (.inl (a6.1, x14))))
        else
          bif decide ((12000 : Int) < (List.length p0 : Int)) then
            (F_basic_Fault (1 : Int) (-1 : Int)).bind fun x15 =>
            some (.inr (.inr (.inl (a6.1, x15))))
          else
            (F_basic_None).bind fun x16 =>
            some (.inr (.inr (.inl (a6.1, x16))))) (fun b7 =>
        bif !b7.2 then
          (F_basic_Fault (18 : Int) (-3 : Int)).bind fun x17 =>
          some (.inr (.inr (.inr (b7.1, x17))))
        else
          bif decide ((12000 : Int) < (List.length p0 : Int)) then
            (F_basic_Fault (1 : Int) (-1 : Int)).bind fun x18 =>
            some (.inr (.inr (.inr (b7.1, x18))))
          else
            (F_basic_None).bind fun x19 =>
            some (.inr (.inr (.inr (b7.1, x19)))))))
/- posthouse/basic.Failed -/
def F_basic_Failed (p0 : Int × Int) : Option Bool :=
  some (p0.1 != (0 : Int))
/- posthouse/transfer.wrong -/
def F_transfer_wrong_p2 (fu : Nat) (r0 : (List UInt8) → UInt8 → Int → Int → Option Int) (s0 : List UInt8) (s1 : UInt8) (s5 : Int) (s6 : Int) (s7 : UInt8) : Option Int :=
  bif s7 == (0 : UInt8) then
    some s6
  else
    bif s7 == (13 : UInt8) then
      some s6
    else
      bif s7 == (10 : UInt8) then
        some s6
      else
        bif decide (s1 < s7) then
          some s6
        else
          bif s5 == (998 : Int) then
            some s6
          else
            r0 s0 s1 (w64 (s5 + (1 : Int))) (w64 (s6 + (1 : Int)))
def F_transfer_wrong_p1 (fu : Nat) (r0 : (List UInt8) → UInt8 → Int → Int → Option Int) (s0 : List UInt8) (s1 : UInt8) (s5 : Int) (s6 : Int) (s7 : UInt8) (s34 : Bool) : Option Int :=
  bif s34 then
    r0 s0 s1 (0 : Int) (w64 ((w64 (s6 + (1 : Int))) + (1 : Int)))
  else
    F_transfer_wrong_p2 fu r0 s0 s1 s5 s6 s7
def F_transfer_wrong_b0 (fu : Nat) (r0 : (List UInt8) → UInt8 → Int → Int → Option Int) (s0 : List UInt8) (s1 : UInt8) (s5 : Int) (s6 : Int) : Option Int :=
  bif decide (s6 < (List.length s0 : Int)) then
    (idx s0 s6).bind fun y1 =>
    bif y1 == (13 : UInt8) then
      bif decide ((w64 (s6 + (1 : Int))) < (List.length s0 : Int)) then
        (idx s0 (w64 (s6 + (1 : Int)))).bind fun y2 =>
        F_transfer_wrong_p1 fu r0 s0 s1 s5 s6 y1 (y2 == (10 : UInt8))
      else
        F_transfer_wrong_p1 fu r0 s0 s1 s5 s6 y1 false
    else
      F_transfer_wrong_p1 fu r0 s0 s1 s5 s6 y1 false
  else
    some (-1 : Int)
def F_transfer_wrong_p0 (fu : Nat) : Nat → (List UInt8) → UInt8 → Int → Int → Option Int
  | 0, _, _, _, _ => none
  | n + 1, s0, s1, s5, s6 => F_transfer_wrong_b0 fu (F_transfer_wrong_p0 fu n) s0 s1 s5 s6
def F_transfer_wrong (fu : Nat) (p0 : List UInt8) (p1 : UInt8) : Option Int :=
  F_transfer_wrong_p0 fu fu p0 p1 (0 : Int) (0 : Int)
/- posthouse/transfer.copied -/
def F_transfer_copied (p0 : List UInt8) : Option ((Int × Int) × (List UInt8)) :=
  bif decide (List.length p0 ≤ rowMax) then
  (F_basic_None).bind fun x1 =>
  some (x1, p0)
  else none
/- posthouse/transfer.plain$1 -/
def F_transfer_plain_1 (fu : Nat) (p0 : List UInt8) (p1 : UInt8) : Option ((Int × Int) × UInt8 × (List UInt8)) :=
  (F_transfer_wrong fu p0 p1).bind fun x1 =>
  bif decide ((0 : Int) ≤ x1) then
    (F_basic_Fault (17 : Int) x1).bind fun x2 =>
    some (x2, (p1, []))
  else
    (F_transfer_copied p0).bind fun x3 =>
    some (x3.1, (p1, x3.2))
/- posthouse/base64.groups -/
def F_base64_groups (p0 : List UInt8) : Option ((List UInt8)) :=
  some p0
/- posthouse/base64.Encode (a round) -/
def F_base64_Encode_r0 (p0 : UInt8) (p1 : UInt8) (p2 : UInt8) (p3 : UInt8) (p4 : Int) (p5 : List UInt8) : Option (Int × (List UInt8)) :=
  bif p4 == (76 : Int) then
    bif decide (List.length (p5 ++ ([(13 : UInt8), (10 : UInt8)] : List UInt8)) ≤ rowMax) then
    bif decide (List.length ((p5 ++ ([(13 : UInt8), (10 : UInt8)] : List UInt8)) ++ ([p0, p1, p2, p3] : List UInt8)) ≤ rowMax) then
    some ((4 : Int), (p5 ++ ([(13 : UInt8), (10 : UInt8)] : List UInt8)) ++ ([p0, p1, p2, p3] : List UInt8))
    else none
    else none
  else
    bif decide (List.length (p5 ++ ([p0, p1, p2, p3] : List UInt8)) ≤ rowMax) then
    some (w64 (p4 + (4 : Int)), p5 ++ ([p0, p1, p2, p3] : List UInt8))
    else none
/- posthouse/base64.groups$1 -/
def F_base64_groups_1_p3 (fu : Nat) (r0 : (List UInt8) → Int → (List UInt8) → Option ((List UInt8) × Int × (List UInt8))) (s3 : Int) (s4 : Int) (m1 : List UInt8) (m3 : Int) (m16 : List UInt8) : Option ((List UInt8) × Int × (List UInt8)) :=
  (idx ([65, 66, 67, 68, 69, 70, 71, 72, 73, 74, 75, 76, 77, 78, 79, 80, 81, 82, 83, 84, 85, 86, 87, 88, 89, 90, 97, 98, 99, 100, 101, 102, 103, 104, 105, 106, 107, 108, 109, 110, 111, 112, 113, 114, 115, 116, 117, 118, 119, 120, 121, 122, 48, 49, 50, 51, 52, 53, 54, 55, 56, 57, 43, 47] : List UInt8) (w64 (((BitVec.ofInt 64 (Int.fdiv s4 (2 ^ min (18 : Int).toNat 64)) &&& BitVec.ofInt 64 (63 : Int)).toNat : Int)))).bind fun c1 =>
  bif decide (s3 < (0 : Int)) then
    (idx ([65, 66, 67, 68, 69, 70, 71, 72, 73, 74, 75, 76, 77, 78, 79, 80, 81, 82, 83, 84, 85, 86, 87, 88, 89, 90, 97, 98, 99, 100, 101, 102, 103, 104, 105, 106, 107, 108, 109, 110, 111, 112, 113, 114, 115, 116, 117, 118, 119, 120, 121, 122, 48, 49, 50, 51, 52, 53, 54, 55, 56, 57, 43, 47] : List UInt8) (w64 (((BitVec.ofInt 64 (Int.fdiv s4 (2 ^ min (12 : Int).toNat 64)) &&& BitVec.ofInt 64 (63 : Int)).toNat : Int)))).bind fun c2 =>
    bif decide (s3 < (1 : Int)) then
      (idx ([65, 66, 67, 68, 69, 70, 71, 72, 73, 74, 75, 76, 77, 78, 79, 80, 81, 82, 83, 84, 85, 86, 87, 88, 89, 90, 97, 98, 99, 100, 101, 102, 103, 104, 105, 106, 107, 108, 109, 110, 111, 112, 113, 114, 115, 116, 117, 118, 119, 120, 121, 122, 48, 49, 50, 51, 52, 53, 54, 55, 56, 57, 43, 47] : List UInt8) (w64 (((BitVec.ofInt 64 (Int.fdiv s4 (2 ^ min (6 : Int).toNat 64)) &&& BitVec.ofInt 64 (63 : Int)).toNat : Int)))).bind fun c3 =>
      bif decide (s3 < (2 : Int)) then
        (idx ([65, 66, 67, 68, 69, 70, 71, 72, 73, 74, 75, 76, 77, 78, 79, 80, 81, 82, 83, 84, 85, 86, 87, 88, 89, 90, 97, 98, 99, 100, 101, 102, 103, 104, 105, 106, 107, 108, 109, 110, 111, 112, 113, 114, 115, 116, 117, 118, 119, 120, 121, 122, 48, 49, 50, 51, 52, 53, 54, 55, 56, 57, 43, 47] : List UInt8) (w64 (((BitVec.ofInt 64 (Int.fdiv s4 (2 ^ min (0 : Int).toNat 64)) &&& BitVec.ofInt 64 (63 : Int)).toNat : Int)))).bind fun c4 =>
        bif decide (s3 < (3 : Int)) then
          (F_base64_Encode_r0 (61 : UInt8) (61 : UInt8) (61 : UInt8) (61 : UInt8) m3 m16).bind fun x5 =>
          bif decide (0 ≤ s3 ∧ s3 ≤ (List.length m1 : Int)) then
          r0 (List.drop s3.toNat m1) x5.1 x5.2
          else none
        else
          (F_base64_Encode_r0 (61 : UInt8) (61 : UInt8) (61 : UInt8) c4 m3 m16).bind fun x6 =>
          bif decide (0 ≤ s3 ∧ s3 ≤ (List.length m1 : Int)) then
          r0 (List.drop s3.toNat m1) x6.1 x6.2
          else none
      else
        (idx ([65, 66, 67, 68, 69, 70, 71, 72, 73, 74, 75, 76, 77, 78, 79, 80, 81, 82, 83, 84, 85, 86, 87, 88, 89, 90, 97, 98, 99, 100, 101, 102, 103, 104, 105, 106, 107, 108, 109, 110, 111, 112, 113, 114, 115, 116, 117, 118, 119, 120, 121, 122, 48, 49, 50, 51, 52, 53, 54, 55, 56, 57, 43, 47] : List UInt8) (w64 (((BitVec.ofInt 64 (Int.fdiv s4 (2 ^ min (0 : Int).toNat 64)) &&& BitVec.ofInt 64 (63 : Int)).toNat : Int)))).bind fun c7 =>
        bif decide (s3 < (3 : Int)) then
          (F_base64_Encode_r0 (61 : UInt8) (61 : UInt8) c3 (61 : UInt8) m3 m16).bind fun x8 =>
          bif decide (0 ≤ s3 ∧ s3 ≤ (List.length m1 : Int)) then
          r0 (List.drop s3.toNat m1) x8.1 x8.2
          else none
        else
          (F_base64_Encode_r0 (61 : UInt8) (61 : UInt8) c3 c7 m3 m16).bind fun x9 =>
          bif decide (0 ≤ s3 ∧ s3 ≤ (List.length m1 : Int)) then
          r0 (List.drop s3.toNat m1) x9.1 x9.2
          else none
    else
      (idx ([65, 66, 67, 68, 69, 70, 71, 72, 73, 74, 75, 76, 77, 78, 79, 80, 81, 82, 83, 84, 85, 86, 87, 88, 89, 90, 97, 98, 99, 100, 101, 102, 103, 104, 105, 106, 107, 108, 109, 110, 111, 112, 113, 114, 115, 116, 117, 118, 119, 120, 121, 122, 48, 49, 50, 51, 52, 53, 54, 55, 56, 57, 43, 47] : List UInt8) (w64 (((BitVec.ofInt 64 (Int.fdiv s4 (2 ^ min (6 : Int).toNat 64)) &&& BitVec.ofInt 64 (63 : Int)).toNat : Int)))).bind fun c10 =>
      bif decide (s3 < (2 : Int)) then
        (idx ([65, 66, 67, 68, 69, 70, 71, 72, 73, 74, 75, 76, 77, 78, 79, 80, 81, 82, 83, 84, 85, 86, 87, 88, 89, 90, 97, 98, 99, 100, 101, 102, 103, 104, 105, 106, 107, 108, 109, 110, 111, 112, 113, 114, 115, 116, 117, 118, 119, 120, 121, 122, 48, 49, 50, 51, 52, 53, 54, 55, 56, 57, 43, 47] : List UInt8) (w64 (((BitVec.ofInt 64 (Int.fdiv s4 (2 ^ min (0 : Int).toNat 64)) &&& BitVec.ofInt 64 (63 : Int)).toNat : Int)))).bind fun c11 =>
        bif decide (s3 < (3 : Int)) then
          (F_base64_Encode_r0 (61 : UInt8) c2 (61 : UInt8) (61 : UInt8) m3 m16).bind fun x12 =>
          bif decide (0 ≤ s3 ∧ s3 ≤ (List.length m1 : Int)) then
          r0 (List.drop s3.toNat m1) x12.1 x12.2
          else none
        else
          (F_base64_Encode_r0 (61 : UInt8) c2 (61 : UInt8) c11 m3 m16).bind fun x13 =>
          bif decide (0 ≤ s3 ∧ s3 ≤ (List.length m1 : Int)) then
          r0 (List.drop s3.toNat m1) x13.1 x13.2
          else none
      else
        (idx ([65, 66, 67, 68, 69, 70, 71, 72, 73, 74, 75, 76, 77, 78, 79, 80, 81, 82, 83, 84, 85, 86, 87, 88, 89, 90, 97, 98, 99, 100, 101, 102, 103, 104, 105, 106, 107, 108, 109, 110, 111, 112, 113, 114, 115, 116, 117, 118, 119, 120, 121, 122, 48, 49, 50, 51, 52, 53, 54, 55, 56, 57, 43, 47] : List UInt8) (w64 (((BitVec.ofInt 64 (Int.fdiv s4 (2 ^ min (0 : Int).toNat 64)) &&& BitVec.ofInt 64 (63 : Int)).toNat : Int)))).bind fun c14 =>
        bif decide (s3 < (3 : Int)) then
          (F_base64_Encode_r0 (61 : UInt8) c2 c10 (61 : UInt8) m3 m16).bind fun x15 =>
          bif decide (0 ≤ s3 ∧ s3 ≤ (List.length m1 : Int)) then
          r0 (List.drop s3.toNat m1) x15.1 x15.2
          else none
        else
          (F_base64_Encode_r0 (61 : UInt8) c2 c10 c14 m3 m16).bind fun x16 =>
          bif decide (0 ≤ s3 ∧ s3 ≤ (List.length m1 : Int)) then
          r0 (List.drop s3.toNat m1) x16.1 x16.2
          else none
  else
    (idx ([65, 66, 67, 68, 69, 70, 71, 72, 73, 74, 75, 76, 77, 78, 79, 80, 81, 82, 83, 84, 85, 86, 87, 88, 89, 90, 97, 98, 99, 100, 101, 102, 103, 104, 105, 106, 107, 108, 109, 110, 111, 112, 113, 114, 115, 116, 117, 118, 119, 120, 121, 122, 48, 49, 50, 51, 52, 53, 54, 55, 56, 57, 43, 47] : List UInt8) (w64 (((BitVec.ofInt 64 (Int.fdiv s4 (2 ^ min (12 : Int).toNat 64)) &&& BitVec.ofInt 64 (63 : Int)).toNat : Int)))).bind fun c17 =>
    bif decide (s3 < (1 : Int)) then
      (idx ([65, 66, 67, 68, 69, 70, 71, 72, 73, 74, 75, 76, 77, 78, 79, 80, 81, 82, 83, 84, 85, 86, 87, 88, 89, 90, 97, 98, 99, 100, 101, 102, 103, 104, 105, 106, 107, 108, 109, 110, 111, 112, 113, 114, 115, 116, 117, 118, 119, 120, 121, 122, 48, 49, 50, 51, 52, 53, 54, 55, 56, 57, 43, 47] : List UInt8) (w64 (((BitVec.ofInt 64 (Int.fdiv s4 (2 ^ min (6 : Int).toNat 64)) &&& BitVec.ofInt 64 (63 : Int)).toNat : Int)))).bind fun c18 =>
      bif decide (s3 < (2 : Int)) then
        (idx ([65, 66, 67, 68, 69, 70, 71, 72, 73, 74, 75, 76, 77, 78, 79, 80, 81, 82, 83, 84, 85, 86, 87, 88, 89, 90, 97, 98, 99, 100, 101, 102, 103, 104, 105, 106, 107, 108, 109, 110, 111, 112, 113, 114, 115, 116, 117, 118, 119, 120, 121, 122, 48, 49, 50, 51, 52, 53, 54, 55, 56, 57, 43, 47] : List UInt8) (w64 (((BitVec.ofInt 64 (Int.fdiv s4 (2 ^ min (0 : Int).toNat 64)) &&& BitVec.ofInt 64 (63 : Int)).toNat : Int)))).bind fun c19 =>
        bif decide (s3 < (3 : Int)) then
          (F_base64_Encode_r0 c1 (61 : UInt8) (61 : UInt8) (61 : UInt8) m3 m16).bind fun x20 =>
          bif decide (0 ≤ s3 ∧ s3 ≤ (List.length m1 : Int)) then
          r0 (List.drop s3.toNat m1) x20.1 x20.2
          else none
        else
          (F_base64_Encode_r0 c1 (61 : UInt8) (61 : UInt8) c19 m3 m16).bind fun x21 =>
          bif decide (0 ≤ s3 ∧ s3 ≤ (List.length m1 : Int)) then
          r0 (List.drop s3.toNat m1) x21.1 x21.2
          else none
      else
        (idx ([65, 66, 67, 68, 69, 70, 71, 72, 73, 74, 75, 76, 77, 78, 79, 80, 81, 82, 83, 84, 85, 86, 87, 88, 89, 90, 97, 98, 99, 100, 101, 102, 103, 104, 105, 106, 107, 108, 109, 110, 111, 112, 113, 114, 115, 116, 117, 118, 119, 120, 121, 122, 48, 49, 50, 51, 52, 53, 54, 55, 56, 57, 43, 47] : List UInt8) (w64 (((BitVec.ofInt 64 (Int.fdiv s4 (2 ^ min (0 : Int).toNat 64)) &&& BitVec.ofInt 64 (63 : Int)).toNat : Int)))).bind fun c22 =>
        bif decide (s3 < (3 : Int)) then
          (F_base64_Encode_r0 c1 (61 : UInt8) c18 (61 : UInt8) m3 m16).bind fun x23 =>
          bif decide (0 ≤ s3 ∧ s3 ≤ (List.length m1 : Int)) then
          r0 (List.drop s3.toNat m1) x23.1 x23.2
          else none
        else
          (F_base64_Encode_r0 c1 (61 : UInt8) c18 c22 m3 m16).bind fun x24 =>
          bif decide (0 ≤ s3 ∧ s3 ≤ (List.length m1 : Int)) then
          r0 (List.drop s3.toNat m1) x24.1 x24.2
          else none
    else
      (idx ([65, 66, 67, 68, 69, 70, 71, 72, 73, 74, 75, 76, 77, 78, 79, 80, 81, 82, 83, 84, 85, 86, 87, 88, 89, 90, 97, 98, 99, 100, 101, 102, 103, 104, 105, 106, 107, 108, 109, 110, 111, 112, 113, 114, 115, 116, 117, 118, 119, 120, 121, 122, 48, 49, 50, 51, 52, 53, 54, 55, 56, 57, 43, 47] : List UInt8) (w64 (((BitVec.ofInt 64 (Int.fdiv s4 (2 ^ min (6 : Int).toNat 64)) &&& BitVec.ofInt 64 (63 : Int)).toNat : Int)))).bind fun c25 =>
      bif decide (s3 < (2 : Int)) then
        (idx ([65, 66, 67, 68, 69, 70, 71, 72, 73, 74, 75, 76, 77, 78, 79, 80, 81, 82, 83, 84, 85, 86, 87, 88, 89, 90, 97, 98, 99, 100, 101, 102, 103, 104, 105, 106, 107, 108, 109, 110, 111, 112, 113, 114, 115, 116, 117, 118, 119, 120, 121, 122, 48, 49, 50, 51, 52, 53, 54, 55, 56, 57, 43, 47] : List UInt8) (w64 (((BitVec.ofInt 64 (Int.fdiv s4 (2 ^ min (0 : Int).toNat 64)) &&& BitVec.ofInt 64 (63 : Int)).toNat : Int)))).bind fun c26 =>
        bif decide (s3 < (3 : Int)) then
          (F_base64_Encode_r0 c1 c17 (61 : UInt8) (61 : UInt8) m3 m16).bind fun x27 =>
          bif decide (0 ≤ s3 ∧ s3 ≤ (List.length m1 : Int)) then
          r0 (List.drop s3.toNat m1) x27.1 x27.2
          else none
        else
          (F_base64_Encode_r0 c1 c17 (61 : UInt8) c26 m3 m16).bind fun x28 =>
          bif decide (0 ≤ s3 ∧ s3 ≤ (List.length m1 : Int)) then
          r0 (List.drop s3.toNat m1) x28.1 x28.2
          else none
      else
        (idx ([65, 66, 67, 68, 69, 70, 71, 72, 73, 74, 75, 76, 77, 78, 79, 80, 81, 82, 83, 84, 85, 86, 87, 88, 89, 90, 97, 98, 99, 100, 101, 102, 103, 104, 105, 106, 107, 108, 109, 110, 111, 112, 113, 114, 115, 116, 117, 118, 119, 120, 121, 122, 48, 49, 50, 51, 52, 53, 54, 55, 56, 57, 43, 47] : List UInt8) (w64 (((BitVec.ofInt 64 (Int.fdiv s4 (2 ^ min (0 : Int).toNat 64)) &&& BitVec.ofInt 64 (63 : Int)).toNat : Int)))).bind fun c29 =>
        bif decide (s3 < (3 : Int)) then
          (F_base64_Encode_r0 c1 c17 c25 (61 : UInt8) m3 m16).bind fun x30 =>
          bif decide (0 ≤ s3 ∧ s3 ≤ (List.length m1 : Int)) then
          r0 (List.drop s3.toNat m1) x30.1 x30.2
          else none
        else
          (F_base64_Encode_r0 c1 c17 c25 c29 m3 m16).bind fun x31 =>
          bif decide (0 ≤ s3 ∧ s3 ≤ (List.length m1 : Int)) then
          r0 (List.drop s3.toNat m1) x31.1 x31.2
          else none
def F_base64_groups_1_p2 (fu : Nat) (r0 : (List UInt8) → Int → (List UInt8) → Option ((List UInt8) × Int × (List UInt8))) (s3 : Int) (s4 : Int) (m1 : List UInt8) (m3 : Int) (m16 : List UInt8) : Option ((List UInt8) × Int × (List UInt8)) :=
  bif decide ((2 : Int) < s3) then
    (idx m1 (2 : Int)).bind fun y1 =>
    F_base64_groups_1_p3 fu r0 s3 (w64 (((BitVec.ofInt 64 (w64 (s4 * 2 ^ min (8 : Int).toNat 64)) ||| BitVec.ofInt 64 (y1.toNat : Int)).toNat : Int))) m1 m3 m16
  else
    F_base64_groups_1_p3 fu r0 s3 (w64 (s4 * 2 ^ min (8 : Int).toNat 64)) m1 m3 m16
def F_base64_groups_1_p1 (fu : Nat) (r0 : (List UInt8) → Int → (List UInt8) → Option ((List UInt8) × Int × (List UInt8))) (s3 : Int) (s4 : Int) (m1 : List UInt8) (m3 : Int) (m16 : List UInt8) : Option ((List UInt8) × Int × (List UInt8)) :=
  bif decide ((1 : Int) < s3) then
    (idx m1 (1 : Int)).bind fun y1 =>
    F_base64_groups_1_p2 fu r0 s3 (w64 (((BitVec.ofInt 64 (w64 (s4 * 2 ^ min (8 : Int).toNat 64)) ||| BitVec.ofInt 64 (y1.toNat : Int)).toNat : Int))) m1 m3 m16
  else
    F_base64_groups_1_p2 fu r0 s3 (w64 (s4 * 2 ^ min (8 : Int).toNat 64)) m1 m3 m16
def F_base64_groups_1_b0 (fu : Nat) (r0 : (List UInt8) → Int → (List UInt8) → Option ((List UInt8) × Int × (List UInt8))) (m1 : List UInt8) (m3 : Int) (m16 : List UInt8) : Option ((List UInt8) × Int × (List UInt8)) :=
  bif decide ((0 : Int) < (List.length m1 : Int)) then
    bif decide ((0 : Int) < (if (List.length m1 : Int) < (3 : Int) then (List.length m1 : Int) else (3 : Int))) then
      (idx m1 (0 : Int)).bind fun y1 =>
      F_base64_groups_1_p1 fu r0 (if (List.length m1 : Int) < (3 : Int) then (List.length m1 : Int) else (3 : Int)) (w64 (((BitVec.ofInt 64 (0 : Int) ||| BitVec.ofInt 64 (y1.toNat : Int)).toNat : Int))) m1 m3 m16
    else
      F_base64_groups_1_p1 fu r0 (if (List.length m1 : Int) < (3 : Int) then (List.length m1 : Int) else (3 : Int)) (0 : Int) m1 m3 m16
  else
    some (m1, (m3, m16))
def F_base64_groups_1_p0 (fu : Nat) : Nat → (List UInt8) → Int → (List UInt8) → Option ((List UInt8) × Int × (List UInt8))
  | 0, _, _, _ => none
  | n + 1, m1, m3, m16 => F_base64_groups_1_b0 fu (F_base64_groups_1_p0 fu n) m1 m3 m16
def F_base64_groups_1 (fu : Nat) (p0 : List UInt8) (p1 : Int) (p2 : List UInt8) : Option ((List UInt8) × Int × (List UInt8)) :=
  F_base64_groups_1_p0 fu fu p0 p1 p2
/- posthouse/base64.Encode -/
def F_base64_Encode (fu : Nat) (p0 : List UInt8) : Option ((Int × Int) × (List UInt8)) :=
  bif decide ((12000 : Int) < (List.length p0 : Int)) then
    (F_basic_Fault (1 : Int) (-1 : Int)).bind fun x1 =>
    some (x1, [])
  else
    (F_base64_groups p0).bind fun x2 =>
    (F_base64_groups_1 fu x2 (0 : Int) []).bind fun x3 =>
    bif decide ((0 : Int) < x3.2.1) then
      bif decide (List.length (x3.2.2 ++ ([(13 : UInt8), (10 : UInt8)] : List UInt8)) ≤ rowMax) then
      (F_basic_None).bind fun x4 =>
      some (x4, x3.2.2 ++ ([(13 : UInt8), (10 : UInt8)] : List UInt8))
      else none
    else
      (F_basic_None).bind fun x5 =>
      some (x5, x3.2.2)
/- posthouse/quoted.line -/
def F_quoted_line (p0 : List UInt8) : Option Bool :=
  bif decide ((2 : Int) ≤ (List.length p0 : Int)) then
    (idx p0 (0 : Int)).bind fun y1 =>
    bif y1 == (13 : UInt8) then
      (idx p0 (1 : Int)).bind fun y2 =>
      some (y2 == (10 : UInt8))
    else
      some false
  else
    some false
/- posthouse/basic.Blank -/
def F_basic_Blank (p0 : UInt8) : Option Bool :=
  bif p0 == (32 : UInt8) then
    some true
  else
    some (p0 == (9 : UInt8))
/- posthouse/basic.Digit -/
def F_basic_Digit (p0 : UInt8) : Option UInt8 :=
  (([48, 49, 50, 51, 52, 53, 54, 55, 56, 57, 65, 66, 67, 68, 69, 70] : List UInt8)[(p0 &&& (15 : UInt8)).toNat]?).bind fun c1 =>
  some c1
/- posthouse/quoted.sign -/
def F_quoted_sign_p0 (s0 : UInt8) (s5 : Bool) : Option ((List UInt8)) :=
  bif decide ((33 : UInt8) ≤ s0) then
    bif decide (s0 ≤ (126 : UInt8)) then
      bif s0 != (61 : UInt8) then
        some ([s0] : List UInt8)
      else
        (F_basic_Blank s0).bind fun x1 =>
        bif x1 then
          bif !s5 then
            some ([s0] : List UInt8)
          else
            (F_basic_Digit (u8shr s0 (min (4 : Int).toNat 8))).bind fun x2 =>
            (F_basic_Digit s0).bind fun x3 =>
            some ([(61 : UInt8), x2, x3] : List UInt8)
        else
          (F_basic_Digit (u8shr s0 (min (4 : Int).toNat 8))).bind fun x4 =>
          (F_basic_Digit s0).bind fun x5 =>
          some ([(61 : UInt8), x4, x5] : List UInt8)
    else
      (F_basic_Blank s0).bind fun x6 =>
      bif x6 then
        bif !s5 then
          some ([s0] : List UInt8)
        else
          (F_basic_Digit (u8shr s0 (min (4 : Int).toNat 8))).bind fun x7 =>
          (F_basic_Digit s0).bind fun x8 =>
          some ([(61 : UInt8), x7, x8] : List UInt8)
      else
        (F_basic_Digit (u8shr s0 (min (4 : Int).toNat 8))).bind fun x9 =>
        (F_basic_Digit s0).bind fun x10 =>
        some ([(61 : UInt8), x9, x10] : List UInt8)
  else
    (F_basic_Blank s0).bind fun x11 =>
    bif x11 then
      bif !s5 then
        some ([s0] : List UInt8)
      else
        (F_basic_Digit (u8shr s0 (min (4 : Int).toNat 8))).bind fun x12 =>
        (F_basic_Digit s0).bind fun x13 =>
        some ([(61 : UInt8), x12, x13] : List UInt8)
    else
      (F_basic_Digit (u8shr s0 (min (4 : Int).toNat 8))).bind fun x14 =>
      (F_basic_Digit s0).bind fun x15 =>
      some ([(61 : UInt8), x14, x15] : List UInt8)
def F_quoted_sign (p0 : UInt8) (p1 : List UInt8) : Option ((List UInt8)) :=
  bif (List.length p1 : Int) == (0 : Int) then
    F_quoted_sign_p0 p0 true
  else
    (F_quoted_line p1).bind fun x1 =>
    F_quoted_sign_p0 p0 x1
/- posthouse/quoted.Encode -/
def F_quoted_Encode_p3 (fu : Nat) (r0 : (List UInt8) → Int → Int → (Int × Int) → (List UInt8) → Option ((Int × Int) × (List UInt8))) (s0 : List UInt8) (s5 : Int) (s6 : Int) (m16 : Int × Int) (m17 : List UInt8) (m18 : List UInt8) : Option ((Int × Int) × (List UInt8)) :=
  bif decide (List.length (m17 ++ m18) ≤ rowMax) then
  r0 s0 (w64 (s5 + (List.length m18 : Int))) (w64 (s6 + (1 : Int))) m16 (m17 ++ m18)
  else none
def F_quoted_Encode_p2 (fu : Nat) (r0 : (List UInt8) → Int → Int → (Int × Int) → (List UInt8) → Option ((Int × Int) × (List UInt8))) (s0 : List UInt8) (s5 : Int) (s6 : Int) (s9 : Int) (m16 : Int × Int) (m17 : List UInt8) (m18 : List UInt8) : Option ((Int × Int) × (List UInt8)) :=
  bif decide (s9 < (w64 (s5 + (List.length m18 : Int)))) then
    bif decide (List.length (m17 ++ ([(61 : UInt8), (13 : UInt8), (10 : UInt8)] : List UInt8)) ≤ rowMax) then
    F_quoted_Encode_p3 fu r0 s0 (0 : Int) s6 m16 (m17 ++ ([(61 : UInt8), (13 : UInt8), (10 : UInt8)] : List UInt8)) m18
    else none
  else
    F_quoted_Encode_p3 fu r0 s0 s5 s6 m16 m17 m18
def F_quoted_Encode_p1 (fu : Nat) (r0 : (List UInt8) → Int → Int → (Int × Int) → (List UInt8) → Option ((Int × Int) × (List UInt8))) (s0 : List UInt8) (s5 : Int) (s6 : Int) (s46 : Bool) (m16 : Int × Int) (m17 : List UInt8) (m18 : List UInt8) : Option ((Int × Int) × (List UInt8)) :=
  bif s46 then
    F_quoted_Encode_p2 fu r0 s0 s5 s6 (75 : Int) m16 m18 m17
  else
    F_quoted_Encode_p2 fu r0 s0 s5 s6 (76 : Int) m16 m18 m17
def F_quoted_Encode_b0 (fu : Nat) (r0 : (List UInt8) → Int → Int → (Int × Int) → (List UInt8) → Option ((Int × Int) × (List UInt8))) (s0 : List UInt8) (s5 : Int) (s6 : Int) (m16 : Int × Int) (m17 : List UInt8) : Option ((Int × Int) × (List UInt8)) :=
  bif decide (s6 < (List.length s0 : Int)) then
    bif decide (0 ≤ s6 ∧ s6 ≤ (List.length s0 : Int)) then
    (F_quoted_line (List.drop s6.toNat s0)).bind fun x1 =>
    bif x1 then
      bif decide (List.length (m17 ++ ([(13 : UInt8), (10 : UInt8)] : List UInt8)) ≤ rowMax) then
      r0 s0 (0 : Int) (w64 ((w64 (s6 + (1 : Int))) + (1 : Int))) m16 (m17 ++ ([(13 : UInt8), (10 : UInt8)] : List UInt8))
      else none
    else
      bif decide (0 ≤ w64 (s6 + (1 : Int)) ∧ w64 (s6 + (1 : Int)) ≤ (List.length s0 : Int)) then
      (idx s0 s6).bind fun y2 =>
      (F_quoted_sign y2 (List.drop (w64 (s6 + (1 : Int))).toNat s0)).bind fun x3 =>
      bif decide ((0 : Int) < (List.length (List.drop (w64 (s6 + (1 : Int))).toNat s0) : Int)) then
        (F_quoted_line (List.drop (w64 (s6 + (1 : Int))).toNat s0)).bind fun x4 =>
        F_quoted_Encode_p1 fu r0 s0 s5 s6 (!x4) m16 x3 m17
      else
        F_quoted_Encode_p1 fu r0 s0 s5 s6 false m16 x3 m17
      else none
    else none
  else
    (F_basic_None).bind fun x5 =>
    some (x5, m17)
def F_quoted_Encode_p0 (fu : Nat) : Nat → (List UInt8) → Int → Int → (Int × Int) → (List UInt8) → Option ((Int × Int) × (List UInt8))
  | 0, _, _, _, _, _ => none
  | n + 1, s0, s5, s6, m16, m17 => F_quoted_Encode_b0 fu (F_quoted_Encode_p0 fu n) s0 s5 s6 m16 m17
def F_quoted_Encode (fu : Nat) (p0 : List UInt8) : Option ((Int × Int) × (List UInt8)) :=
  bif decide ((12000 : Int) < (List.length p0 : Int)) then
    (F_basic_Fault (1 : Int) (-1 : Int)).bind fun x1 =>
    some (x1, [])
  else
    F_quoted_Encode_p0 fu fu p0 (0 : Int) (0 : Int) ((0 : Int), (0 : Int)) []
/- posthouse/transfer.Encode -/
def F_transfer_Encode (fu : Nat) (p0 : List UInt8) (p1 : List UInt8) : Option ((Int × Int) × (List UInt8)) :=
  (F_transfer_valid fu p0 p1).bind fun x1 =>
  sumK x1 (fun a2 =>
    (F_basic_Failed a2.2.1).bind fun x8 =>
    bif x8 then
      some (a2.2.1, [])
    else
      (F_transfer_plain_1 fu p0 a2.2.2).bind fun x9 =>
      some (x9.1, x9.2.2)) (fun b3 =>
    sumK b3 (fun a4 =>
      (F_basic_Failed a4.2).bind fun x10 =>
      bif x10 then
        some (a4.2, [])
      else
        (F_base64_Encode fu p0).bind fun x11 =>
        some x11) (fun b5 =>
      sumK b5 (fun a6 =>
        (F_basic_Failed a6.2).bind fun x12 =>
        bif x12 then
          some (a6.2, [])
        else
          (F_quoted_Encode fu p0).bind fun x13 =>
          some x13) (fun b7 =>
        (F_basic_Failed b7.2).bind fun x14 =>
        bif x14 then
          some (b7.2, [])
        else
          none)))
/- bytes.IndexByte -/
def F_bytes_IndexByte (p0 : List UInt8) (p1 : UInt8) : Option Int :=
  (F_bytealg_IndexByte p0 p1).bind fun x1 =>
  some x1
/- posthouse/base64.Lenient -/
def F_base64_Lenient_b0 (fu : Nat) (r0 : Int → Int → (List UInt8) → Int → Int → (Int × Int) → (List UInt8) → Option ((Int × Int) × (List UInt8))) (s5 : Int) (s6 : Int) (s14 : List UInt8) (s15 : Int) (s16 : Int) (m16 : Int × Int) (m17 : List UInt8) : Option ((Int × Int) × (List UInt8)) :=
  bif decide (s16 < s15) then
    (idx s14 s16).bind fun y1 =>
    bif y1 == (61 : UInt8) then
      (F_basic_None).bind fun x2 =>
      some (x2, m17)
    else
      bif decide (0 < List.length ([(65 : UInt8), (66 : UInt8), (67 : UInt8), (68 : UInt8), (69 : UInt8), (70 : UInt8), (71 : UInt8), (72 : UInt8), (73 : UInt8), (74 : UInt8), (75 : UInt8), (76 : UInt8), (77 : UInt8), (78 : UInt8), (79 : UInt8), (80 : UInt8), (81 : UInt8), (82 : UInt8), (83 : UInt8), (84 : UInt8), (85 : UInt8), (86 : UInt8), (87 : UInt8), (88 : UInt8), (89 : UInt8), (90 : UInt8), (97 : UInt8), (98 : UInt8), (99 : UInt8), (100 : UInt8), (101 : UInt8), (102 : UInt8), (103 : UInt8), (104 : UInt8), (105 : UInt8), (106 : UInt8), (107 : UInt8), (108 : UInt8), (109 : UInt8), (110 : UInt8), (111 : UInt8), (112 : UInt8), (113 : UInt8), (114 : UInt8), (115 : UInt8), (116 : UInt8), (117 : UInt8), (118 : UInt8), (119 : UInt8), (120 : UInt8), (121 : UInt8), (122 : UInt8), (48 : UInt8), (49 : UInt8), (50 : UInt8), (51 : UInt8), (52 : UInt8), (53 : UInt8), (54 : UInt8), (55 : UInt8), (56 : UInt8), (57 : UInt8), (43 : UInt8), (47 : UInt8)] : List UInt8)) then
      (F_bytes_IndexByte ([(65 : UInt8), (66 : UInt8), (67 : UInt8), (68 : UInt8), (69 : UInt8), (70 : UInt8), (71 : UInt8), (72 : UInt8), (73 : UInt8), (74 : UInt8), (75 : UInt8), (76 : UInt8), (77 : UInt8), (78 : UInt8), (79 : UInt8), (80 : UInt8), (81 : UInt8), (82 : UInt8), (83 : UInt8), (84 : UInt8), (85 : UInt8), (86 : UInt8), (87 : UInt8), (88 : UInt8), (89 : UInt8), (90 : UInt8), (97 : UInt8), (98 : UInt8), (99 : UInt8), (100 : UInt8), (101 : UInt8), (102 : UInt8), (103 : UInt8), (104 : UInt8), (105 : UInt8), (106 : UInt8), (107 : UInt8), (108 : UInt8), (109 : UInt8), (110 : UInt8), (111 : UInt8), (112 : UInt8), (113 : UInt8), (114 : UInt8), (115 : UInt8), (116 : UInt8), (117 : UInt8), (118 : UInt8), (119 : UInt8), (120 : UInt8), (121 : UInt8), (122 : UInt8), (48 : UInt8), (49 : UInt8), (50 : UInt8), (51 : UInt8), (52 : UInt8), (53 : UInt8), (54 : UInt8), (55 : UInt8), (56 : UInt8), (57 : UInt8), (43 : UInt8), (47 : UInt8)] : List UInt8) y1).bind fun x3 =>
      bif decide (x3 < (0 : Int)) then
        r0 s5 s6 s14 s15 (w64 (s16 + (1 : Int))) m16 m17
      else
        bif decide ((8 : Int) ≤ (w64 (s6 + (6 : Int)))) then
          bif decide (0 ≤ w64 ((w64 (s6 + (6 : Int))) - (8 : Int))) then
          bif decide (List.length (m17 ++ ([toU8 (Int.fdiv (w64 (((BitVec.ofInt 64 (w64 (s5 * 2 ^ min (6 : Int).toNat 64)) ||| BitVec.ofInt 64 x3).toNat : Int))) (2 ^ min (w64 ((w64 (s6 + (6 : Int))) - (8 : Int))).toNat 64))] : List UInt8)) ≤ rowMax) then
          bif decide (0 ≤ w64 ((w64 (s6 + (6 : Int))) - (8 : Int))) then
          r0 (w64 (((BitVec.ofInt 64 (w64 (((BitVec.ofInt 64 (w64 (s5 * 2 ^ min (6 : Int).toNat 64)) ||| BitVec.ofInt 64 x3).toNat : Int))) &&& BitVec.ofInt 64 (w64 ((w64 ((1 : Int) * 2 ^ min (w64 ((w64 (s6 + (6 : Int))) - (8 : Int))).toNat 64)) - (1 : Int)))).toNat : Int))) (w64 ((w64 (s6 + (6 : Int))) - (8 : Int))) s14 s15 (w64 (s16 + (1 : Int))) m16 (m17 ++ ([toU8 (Int.fdiv (w64 (((BitVec.ofInt 64 (w64 (s5 * 2 ^ min (6 : Int).toNat 64)) ||| BitVec.ofInt 64 x3).toNat : Int))) (2 ^ min (w64 ((w64 (s6 + (6 : Int))) - (8 : Int))).toNat 64))] : List UInt8))
          else none
          else none
          else none
        else
          r0 (w64 (((BitVec.ofInt 64 (w64 (s5 * 2 ^ min (6 : Int).toNat 64)) ||| BitVec.ofInt 64 x3).toNat : Int))) (w64 (s6 + (6 : Int))) s14 s15 (w64 (s16 + (1 : Int))) m16 m17
      else none
  else
    (F_basic_None).bind fun x4 =>
    some (x4, m17)
def F_base64_Lenient_p0 (fu : Nat) : Nat → Int → Int → (List UInt8) → Int → Int → (Int × Int) → (List UInt8) → Option ((Int × Int) × (List UInt8))
  | 0, _, _, _, _, _, _, _ => none
  | n + 1, s5, s6, s14, s15, s16, m16, m17 => F_base64_Lenient_b0 fu (F_base64_Lenient_p0 fu n) s5 s6 s14 s15 s16 m16 m17
def F_base64_Lenient (fu : Nat) (p0 : List UInt8) : Option ((Int × Int) × (List UInt8)) :=
  bif decide ((24000 : Int) < (List.length p0 : Int)) then
    (F_basic_Fault (1 : Int) (-1 : Int)).bind fun x1 =>
    some (x1, [])
  else
    F_base64_Lenient_p0 fu fu (0 : Int) (0 : Int) p0 (List.length p0 : Int) (0 : Int) ((0 : Int), (0 : Int)) []
/- bytes.Equal -/
def F_bytes_Equal (p0 : List UInt8) (p1 : List UInt8) : Option Bool :=
  some (p0 == p1)
/- bytes.HasSuffix -/
def F_bytes_HasSuffix (p0 : List UInt8) (p1 : List UInt8) : Option Bool :=
  bif decide ((List.length p1 : Int) ≤ (List.length p0 : Int)) then
    bif decide (0 ≤ w64 ((List.length p0 : Int) - (List.length p1 : Int)) ∧ w64 ((List.length p0 : Int) - (List.length p1 : Int)) ≤ (List.length p0 : Int)) then
    (F_bytes_Equal (List.drop (w64 ((List.length p0 : Int) - (List.length p1 : Int))).toNat p0) p1).bind fun x1 =>
    some x1
    else none
  else
    some false
/- bytes.TrimSuffix -/
def F_bytes_TrimSuffix (p0 : List UInt8) (p1 : List UInt8) : Option ((List UInt8)) :=
  (F_bytes_HasSuffix p0 p1).bind fun x1 =>
  bif x1 then
    bif decide (0 ≤ w64 ((List.length p0 : Int) - (List.length p1 : Int)) ∧ w64 ((List.length p0 : Int) - (List.length p1 : Int)) ≤ (List.length p0 : Int)) then
    some (List.take (w64 ((List.length p0 : Int) - (List.length p1 : Int))).toNat p0)
    else none
  else
    some p0
/- bytes.trimRightByte -/
def F_bytes_trimRightByte_b0 (fu : Nat) (r0 : (List UInt8) → UInt8 → Option ((List UInt8))) (s0 : List UInt8) (s1 : UInt8) : Option ((List UInt8)) :=
  bif decide ((0 : Int) < (List.length s0 : Int)) then
    (idx s0 (w64 ((List.length s0 : Int) - (1 : Int)))).bind fun y1 =>
    bif y1 == s1 then
      bif decide (0 ≤ w64 ((List.length s0 : Int) - (1 : Int)) ∧ w64 ((List.length s0 : Int) - (1 : Int)) ≤ (List.length s0 : Int)) then
      r0 (List.take (w64 ((List.length s0 : Int) - (1 : Int))).toNat s0) s1
      else none
    else
      some s0
  else
    some s0
def F_bytes_trimRightByte_p0 (fu : Nat) : Nat → (List UInt8) → UInt8 → Option ((List UInt8))
  | 0, _, _ => none
  | n + 1, s0, s1 => F_bytes_trimRightByte_b0 fu (F_bytes_trimRightByte_p0 fu n) s0 s1
def F_bytes_trimRightByte (fu : Nat) (p0 : List UInt8) (p1 : UInt8) : Option ((List UInt8)) :=
  F_bytes_trimRightByte_p0 fu fu p0 p1
/- bytes.makeASCIISet -/
def F_bytes_makeASCIISet_b0 (fu : Nat) (r0 : (List UInt8) → Int → (List Bool) → Option ((List Bool) × Bool)) (s0 : List UInt8) (s4 : Int) (m16 : List Bool) : Option ((List Bool) × Bool) :=
  bif decide (s4 < (List.length s0 : Int)) then
    (idx s0 s4).bind fun c1 =>
    bif decide ((128 : UInt8) ≤ c1) then
      bif decide (List.length m16 = 256) then
      bif decide (List.length m16 = List.length m16) && decide (List.length m16 = 256) then
      bif decide (List.length m16 = 256) && (true && true) then
      some (m16, false)
      else none
      else none
      else none
    else
      (m16[c1.toNat]?).bind fun y2 =>
      r0 s0 (w64 (s4 + (1 : Int))) (List.set m16 c1.toNat true)
  else
    bif decide (List.length m16 = 256) then
    bif decide (List.length m16 = List.length m16) && decide (List.length m16 = 256) then
    bif decide (List.length m16 = 256) && (true && true) then
    some (m16, true)
    else none
    else none
    else none
def F_bytes_makeASCIISet_p0 (fu : Nat) : Nat → (List UInt8) → Int → (List Bool) → Option ((List Bool) × Bool)
  | 0, _, _, _ => none
  | n + 1, s0, s4, m16 => F_bytes_makeASCIISet_b0 fu (F_bytes_makeASCIISet_p0 fu n) s0 s4 m16
def F_bytes_makeASCIISet (fu : Nat) (p0 : List UInt8) : Option ((List Bool) × Bool) :=
  F_bytes_makeASCIISet_p0 fu fu p0 (0 : Int) (List.replicate 256 false)
/- (*bytes.asciiSet).contains -/
def F_bytes_asciiSet_contains (p0 : UInt8) (p1 : List Bool) : Option (Bool × (List Bool)) :=
  (p1[p0.toNat]?).bind fun y1 =>
  some (y1, p1)
/- bytes.trimRightASCII -/
def F_bytes_trimRightASCII_b0 (fu : Nat) (r0 : (List UInt8) → (List Bool) → Option ((List UInt8) × (List Bool))) (s0 : List UInt8) (m0 : List Bool) : Option ((List UInt8) × (List Bool)) :=
  bif decide ((0 : Int) < (List.length s0 : Int)) then
    (idx s0 (w64 ((List.length s0 : Int) - (1 : Int)))).bind fun y1 =>
    (F_bytes_asciiSet_contains y1 m0).bind fun x2 =>
    bif !x2.1 then
      some (s0, x2.2)
    else
      bif decide (0 ≤ w64 ((List.length s0 : Int) - (1 : Int)) ∧ w64 ((List.length s0 : Int) - (1 : Int)) ≤ (List.length s0 : Int)) then
      r0 (List.take (w64 ((List.length s0 : Int) - (1 : Int))).toNat s0) x2.2
      else none
  else
    some (s0, m0)
def F_bytes_trimRightASCII_p0 (fu : Nat) : Nat → (List UInt8) → (List Bool) → Option ((List UInt8) × (List Bool))
  | 0, _, _ => none
  | n + 1, s0, m0 => F_bytes_trimRightASCII_b0 fu (F_bytes_trimRightASCII_p0 fu n) s0 m0
def F_bytes_trimRightASCII (fu : Nat) (p0 : List UInt8) (p1 : List Bool) : Option ((List UInt8) × (List Bool)) :=
  F_bytes_trimRightASCII_p0 fu fu p0 p1
/- unicode/utf8.RuneStart -/
def F_unicode_utf8_RuneStart (p0 : UInt8) : Option Bool :=
  some ((p0 &&& (192 : UInt8)) != (128 : UInt8))
/- unicode/utf8.decodeRuneSlow -/
def F_unicode_utf8_decodeRuneSlow (p0 : List UInt8) : Option (Int × Int) :=
  bif decide ((List.length p0 : Int) < (1 : Int)) then
    some ((65533 : Int), (0 : Int))
  else
    (idx p0 (0 : Int)).bind fun y1 =>
    none
/- unicode/utf8.DecodeRune -/
def F_unicode_utf8_DecodeRune_b0 (fu : Nat) (r0 : (List UInt8) → (List UInt8) → Int → Option (Int × Int)) (s0 : List UInt8) (s6 : List UInt8) (s7 : Int) : Option (Int × Int) :=
  bif decide ((0 : Int) < s7) then
    (idx s6 (0 : Int)).bind fun y1 =>
    bif decide (y1 < (128 : UInt8)) then
      some ((y1.toNat : Int), (1 : Int))
    else
      (F_unicode_utf8_decodeRuneSlow s0).bind fun x2 =>
      some x2
  else
    (F_unicode_utf8_decodeRuneSlow s0).bind fun x3 =>
    some x3
def F_unicode_utf8_DecodeRune_p0 (fu : Nat) : Nat → (List UInt8) → (List UInt8) → Int → Option (Int × Int)
  | 0, _, _, _ => none
  | n + 1, s0, s6, s7 => F_unicode_utf8_DecodeRune_b0 fu (F_unicode_utf8_DecodeRune_p0 fu n) s0 s6 s7
def F_unicode_utf8_DecodeRune (fu : Nat) (p0 : List UInt8) : Option (Int × Int) :=
  F_unicode_utf8_DecodeRune_p0 fu fu p0 p0 (List.length p0 : Int)
/- unicode/utf8.DecodeLastRune -/
def F_unicode_utf8_DecodeLastRune_p2 (fu : Nat) (s0 : List UInt8) (s4 : Int) (s5 : Int) : Option (Int × Int) :=
  bif decide (0 ≤ s5 ∧ s5 ≤ s4 ∧ s4 ≤ (List.length s0 : Int)) then
  (F_unicode_utf8_DecodeRune fu (List.take (s4.toNat - s5.toNat) (List.drop s5.toNat s0))).bind fun x1 =>
  bif (w64 (s5 + x1.2)) != s4 then
    some ((65533 : Int), (1 : Int))
  else
    some x1
  else none
def F_unicode_utf8_DecodeLastRune_p1 (fu : Nat) (s0 : List UInt8) (s4 : Int) (s5 : Int) : Option (Int × Int) :=
  bif decide (s5 < (0 : Int)) then
    F_unicode_utf8_DecodeLastRune_p2 fu s0 s4 (0 : Int)
  else
    F_unicode_utf8_DecodeLastRune_p2 fu s0 s4 s5
def F_unicode_utf8_DecodeLastRune_b0 (fu : Nat) (r0 : (List UInt8) → Int → Int → Int → Option (Int × Int)) (s0 : List UInt8) (s4 : Int) (s5 : Int) (s6 : Int) : Option (Int × Int) :=
  bif decide (s6 ≤ s5) then
    (idx s0 s5).bind fun y1 =>
    (F_unicode_utf8_RuneStart y1).bind fun x2 =>
    bif x2 then
      F_unicode_utf8_DecodeLastRune_p1 fu s0 s4 s5
    else
      r0 s0 s4 (w64 (s5 - (1 : Int))) s6
  else
    F_unicode_utf8_DecodeLastRune_p1 fu s0 s4 s5
def F_unicode_utf8_DecodeLastRune_p0 (fu : Nat) : Nat → (List UInt8) → Int → Int → Int → Option (Int × Int)
  | 0, _, _, _, _ => none
  | n + 1, s0, s4, s5, s6 => F_unicode_utf8_DecodeLastRune_b0 fu (F_unicode_utf8_DecodeLastRune_p0 fu n) s0 s4 s5 s6
def F_unicode_utf8_DecodeLastRune (fu : Nat) (p0 : List UInt8) : Option (Int × Int) :=
  bif (List.length p0 : Int) == (0 : Int) then
    some ((65533 : Int), (0 : Int))
  else
    (idx p0 (w64 ((List.length p0 : Int) - (1 : Int)))).bind fun y1 =>
    bif decide ((y1.toNat : Int) < (128 : Int)) then
      some ((y1.toNat : Int), (1 : Int))
    else
      F_unicode_utf8_DecodeLastRune_p0 fu fu p0 (List.length p0 : Int) (w64 ((w64 ((List.length p0 : Int) - (1 : Int))) - (1 : Int))) (if (0 : Int) > w64 ((List.length p0 : Int) - (4 : Int)) then (0 : Int) else w64 ((List.length p0 : Int) - (4 : Int)))
/- bytes.trimRightUnicode -/
def F_bytes_trimRightUnicode_b0 (fu : Nat) (r0 : (List UInt8) → (List UInt8) → Option ((List UInt8))) (s0 : List UInt8) (s1 : List UInt8) : Option ((List UInt8)) :=
  bif decide ((0 : Int) < (List.length s0 : Int)) then
    (idx s0 (w64 ((List.length s0 : Int) - (1 : Int)))).bind fun y1 =>
    bif decide ((128 : Int) ≤ (y1.toNat : Int)) then
      (F_unicode_utf8_DecodeLastRune fu s0).bind fun x2 =>
      none
    else
      none
  else
    some s0
def F_bytes_trimRightUnicode_p0 (fu : Nat) : Nat → (List UInt8) → (List UInt8) → Option ((List UInt8))
  | 0, _, _ => none
  | n + 1, s0, s1 => F_bytes_trimRightUnicode_b0 fu (F_bytes_trimRightUnicode_p0 fu n) s0 s1
def F_bytes_trimRightUnicode (fu : Nat) (p0 : List UInt8) (p1 : List UInt8) : Option ((List UInt8)) :=
  F_bytes_trimRightUnicode_p0 fu fu p0 p1
/- bytes.TrimRight -/
def F_bytes_TrimRight_p3 (fu : Nat) (s0 : List UInt8) (s1 : List UInt8) : Option ((List UInt8)) :=
  (F_bytes_makeASCIISet fu s1).bind fun x1 =>
  bif decide (List.length x1.1 = List.length (List.replicate 256 false)) && decide (List.length x1.1 = 256) then
  bif x1.2 then
    (F_bytes_trimRightASCII fu s0 x1.1).bind fun x2 =>
    some x2.1
  else
    (F_bytes_trimRightUnicode fu s0 s1).bind fun x3 =>
    some x3
  else none
def F_bytes_TrimRight_p2 (fu : Nat) (s0 : List UInt8) (s1 : List UInt8) (s22 : Bool) : Option ((List UInt8)) :=
  bif s22 then
    (idx s1 (0 : Int)).bind fun c1 =>
    (F_bytes_trimRightByte fu s0 c1).bind fun x2 =>
    some x2
  else
    F_bytes_TrimRight_p3 fu s0 s1
def F_bytes_TrimRight_p1 (fu : Nat) (s0 : List UInt8) (s1 : List UInt8) : Option ((List UInt8)) :=
  bif (List.length s1 : Int) == (1 : Int) then
    (idx s1 (0 : Int)).bind fun c1 =>
    F_bytes_TrimRight_p2 fu s0 s1 (decide (c1 < (128 : UInt8)))
  else
    F_bytes_TrimRight_p2 fu s0 s1 false
def F_bytes_TrimRight_p0 (fu : Nat) (s0 : List UInt8) (s1 : List UInt8) (s13 : Bool) : Option ((List UInt8)) :=
  bif s13 then
    some s0
  else
    F_bytes_TrimRight_p1 fu s0 s1
def F_bytes_TrimRight (fu : Nat) (p0 : List UInt8) (p1 : List UInt8) : Option ((List UInt8)) :=
  bif (List.length p0 : Int) == (0 : Int) then
    F_bytes_TrimRight_p0 fu p0 p1 true
  else
    F_bytes_TrimRight_p0 fu p0 p1 (p1 == ([] : List UInt8))
/- posthouse/basic.Hex -/
def F_basic_Hex_p1 (s0 : UInt8) (s13 : Bool) : Option (UInt8 × Bool) :=
  bif s13 then
    some ((s0 - (65 : UInt8)) + (10 : UInt8), true)
  else
    bif decide ((97 : UInt8) ≤ s0) then
      bif decide (s0 ≤ (102 : UInt8)) then
        some ((s0 - (97 : UInt8)) + (10 : UInt8), true)
      else
        some ((0 : UInt8), false)
    else
      some ((0 : UInt8), false)
def F_basic_Hex_p0 (s0 : UInt8) (s4 : Bool) : Option (UInt8 × Bool) :=
  bif s4 then
    some (s0 - (48 : UInt8), true)
  else
    bif decide ((65 : UInt8) ≤ s0) then
      F_basic_Hex_p1 s0 (decide (s0 ≤ (70 : UInt8)))
    else
      F_basic_Hex_p1 s0 false
def F_basic_Hex (p0 : UInt8) : Option (UInt8 × Bool) :=
  bif decide ((48 : UInt8) ≤ p0) then
    F_basic_Hex_p0 p0 (decide (p0 ≤ (57 : UInt8)))
  else
    F_basic_Hex_p0 p0 false
/- posthouse/basic.Pair -/
def F_basic_Pair (p0 : List UInt8) : Option (UInt8 × Bool) :=
  bif decide ((List.length p0 : Int) < (2 : Int)) then
    some ((0 : UInt8), false)
  else
    (idx p0 (0 : Int)).bind fun c1 =>
    (F_basic_Hex c1).bind fun x2 =>
    (idx p0 (1 : Int)).bind fun c3 =>
    (F_basic_Hex c3).bind fun x4 =>
    bif x2.2 then
      some ((u8shl x2.1 (min (4 : Int).toNat 8)) ||| x4.1, x4.2)
    else
      some ((u8shl x2.1 (min (4 : Int).toNat 8)) ||| x4.1, false)
/- posthouse/quoted.plain -/
def F_quoted_plain_b0 (fu : Nat) (r0 : (List UInt8) → Int → (List UInt8) → Option ((List UInt8))) (s0 : List UInt8) (s4 : Int) (m16 : List UInt8) : Option ((List UInt8)) :=
  bif decide (s4 < (List.length s0 : Int)) then
    (idx s0 s4).bind fun y1 =>
    bif y1 == (61 : UInt8) then
      bif decide (0 ≤ w64 (s4 + (1 : Int)) ∧ w64 (s4 + (1 : Int)) ≤ (if (List.length s0 : Int) < w64 (s4 + (3 : Int)) then (List.length s0 : Int) else w64 (s4 + (3 : Int))) ∧ (if (List.length s0 : Int) < w64 (s4 + (3 : Int)) then (List.length s0 : Int) else w64 (s4 + (3 : Int))) ≤ (List.length s0 : Int)) then
      (F_basic_Pair (List.take ((if (List.length s0 : Int) < w64 (s4 + (3 : Int)) then (List.length s0 : Int) else w64 (s4 + (3 : Int))).toNat - (w64 (s4 + (1 : Int))).toNat) (List.drop (w64 (s4 + (1 : Int))).toNat s0))).bind fun x2 =>
      bif x2.2 then
        bif decide (List.length (m16 ++ ([x2.1] : List UInt8)) ≤ rowMax) then
        r0 s0 (w64 ((w64 (s4 + (2 : Int))) + (1 : Int))) (m16 ++ ([x2.1] : List UInt8))
        else none
      else
        (idx s0 s4).bind fun y3 =>
        bif decide (List.length (m16 ++ ([y3] : List UInt8)) ≤ rowMax) then
        r0 s0 (w64 (s4 + (1 : Int))) (m16 ++ ([y3] : List UInt8))
        else none
      else none
    else
      (idx s0 s4).bind fun y4 =>
      bif decide (List.length (m16 ++ ([y4] : List UInt8)) ≤ rowMax) then
      r0 s0 (w64 (s4 + (1 : Int))) (m16 ++ ([y4] : List UInt8))
      else none
  else
    some m16
def F_quoted_plain_p0 (fu : Nat) : Nat → (List UInt8) → Int → (List UInt8) → Option ((List UInt8))
  | 0, _, _, _ => none
  | n + 1, s0, s4, m16 => F_quoted_plain_b0 fu (F_quoted_plain_p0 fu n) s0 s4 m16
def F_quoted_plain (fu : Nat) (p0 : List UInt8) : Option ((List UInt8)) :=
  F_quoted_plain_p0 fu fu p0 (0 : Int) []
/- posthouse/quoted.Lenient -/
def F_quoted_Lenient_p3 (fu : Nat) (r0 : (List UInt8) → (Int × Int) → (List UInt8) → Option ((Int × Int) × (List UInt8))) (s0 : List UInt8) (s5 : Int) (s6 : List UInt8) (s7 : List UInt8) (m16 : Int × Int) (m17 : List UInt8) : Option ((Int × Int) × (List UInt8)) :=
  (F_quoted_plain fu s6).bind fun x1 =>
  bif decide (List.length (m17 ++ x1) ≤ rowMax) then
  bif decide (List.length ((m17 ++ x1) ++ s7) ≤ rowMax) then
  bif decide (0 ≤ s5 ∧ s5 ≤ (List.length s0 : Int)) then
  r0 (List.drop s5.toNat s0) m16 ((m17 ++ x1) ++ s7)
  else none
  else none
  else none
def F_quoted_Lenient_p2 (fu : Nat) (r0 : (List UInt8) → (Int × Int) → (List UInt8) → Option ((Int × Int) × (List UInt8))) (s0 : List UInt8) (s5 : Int) (s6 : List UInt8) (m16 : Int × Int) (m17 : List UInt8) : Option ((Int × Int) × (List UInt8)) :=
  bif decide (0 ≤ (List.length s6 : Int) ∧ (List.length s6 : Int) ≤ s5 ∧ s5 ≤ (List.length s0 : Int)) then
  (F_bytes_TrimRight fu s6 ([32, 9] : List UInt8)).bind fun x1 =>
  bif decide (0 < List.length ([(61 : UInt8)] : List UInt8)) then
  (F_bytes_HasSuffix x1 ([(61 : UInt8)] : List UInt8)).bind fun x2 =>
  bif x2 then
    bif decide (0 ≤ w64 ((List.length x1 : Int) - (1 : Int)) ∧ w64 ((List.length x1 : Int) - (1 : Int)) ≤ (List.length x1 : Int)) then
    F_quoted_Lenient_p3 fu r0 s0 s5 (List.take (w64 ((List.length x1 : Int) - (1 : Int))).toNat x1) [] m16 m17
    else none
  else
    F_quoted_Lenient_p3 fu r0 s0 s5 x1 (List.take (s5.toNat - (List.length s6 : Int).toNat) (List.drop (List.length s6 : Int).toNat s0)) m16 m17
  else none
  else none
def F_quoted_Lenient_p1 (fu : Nat) (r0 : (List UInt8) → (Int × Int) → (List UInt8) → Option ((Int × Int) × (List UInt8))) (s0 : List UInt8) (s5 : Int) (m16 : Int × Int) (m17 : List UInt8) : Option ((Int × Int) × (List UInt8)) :=
  bif decide (0 ≤ s5 ∧ s5 ≤ (List.length s0 : Int)) then
  bif decide (0 < List.length ([(10 : UInt8)] : List UInt8)) then
  (F_bytes_TrimSuffix (List.take s5.toNat s0) ([(10 : UInt8)] : List UInt8)).bind fun x1 =>
  bif decide ((List.length x1 : Int) < s5) then
    bif decide (0 < List.length ([(13 : UInt8)] : List UInt8)) then
    (F_bytes_TrimSuffix x1 ([(13 : UInt8)] : List UInt8)).bind fun x2 =>
    F_quoted_Lenient_p2 fu r0 s0 s5 x2 m16 m17
    else none
  else
    F_quoted_Lenient_p2 fu r0 s0 s5 x1 m16 m17
  else none
  else none
def F_quoted_Lenient_b0 (fu : Nat) (r0 : (List UInt8) → (Int × Int) → (List UInt8) → Option ((Int × Int) × (List UInt8))) (s0 : List UInt8) (m16 : Int × Int) (m17 : List UInt8) : Option ((Int × Int) × (List UInt8)) :=
  bif decide ((0 : Int) < (List.length s0 : Int)) then
    (F_bytes_IndexByte s0 (10 : UInt8)).bind fun x1 =>
    bif (w64 (x1 + (1 : Int))) == (0 : Int) then
      F_quoted_Lenient_p1 fu r0 s0 (List.length s0 : Int) m16 m17
    else
      F_quoted_Lenient_p1 fu r0 s0 (w64 (x1 + (1 : Int))) m16 m17
  else
    (F_basic_None).bind fun x2 =>
    some (x2, m17)
def F_quoted_Lenient_p0 (fu : Nat) : Nat → (List UInt8) → (Int × Int) → (List UInt8) → Option ((Int × Int) × (List UInt8))
  | 0, _, _, _ => none
  | n + 1, s0, m16, m17 => F_quoted_Lenient_b0 fu (F_quoted_Lenient_p0 fu n) s0 m16 m17
def F_quoted_Lenient (fu : Nat) (p0 : List UInt8) : Option ((Int × Int) × (List UInt8)) :=
  bif decide ((48000 : Int) < (List.length p0 : Int)) then
    (F_basic_Fault (1 : Int) (-1 : Int)).bind fun x1 =>
    some (x1, [])
  else
    F_quoted_Lenient_p0 fu fu p0 ((0 : Int), (0 : Int)) []
/- posthouse/transfer.Decode -/
def F_transfer_Decode (fu : Nat) (p0 : List UInt8) (p1 : List UInt8) : Option ((Int × Int) × (List UInt8)) :=
  (F_transfer_valid fu p0 p1).bind fun x1 =>
  sumK x1 (fun a2 =>
    (F_basic_Failed a2.2.1).bind fun x8 =>
    bif x8 then
      some (a2.2.1, [])
    else
      (F_transfer_copied p0).bind fun x9 =>
      some x9) (fun b3 =>
    sumK b3 (fun a4 =>
      (F_basic_Failed a4.2).bind fun x10 =>
      bif x10 then
        some (a4.2, [])
      else
        (F_base64_Lenient fu p0).bind fun x11 =>
        some x11) (fun b5 =>
      sumK b5 (fun a6 =>
        (F_basic_Failed a6.2).bind fun x12 =>
        bif x12 then
          some (a6.2, [])
        else
          (F_quoted_Lenient fu p0).bind fun x13 =>
          some x13) (fun b7 =>
        (F_basic_Failed b7.2).bind fun x14 =>
        bif x14 then
          some (b7.2, [])
        else
          none)))
/- posthouse/transfer.Choose -/
def F_transfer_Choose (fu : Nat) (p0 : List UInt8) : Option ((List UInt8) × (Int × Int)) :=
  bif decide ((12000 : Int) < (List.length p0 : Int)) then
    (F_basic_Fault (1 : Int) (-1 : Int)).bind fun x1 =>
    some (([] : List UInt8), x1)
  else
    (F_transfer_wrong fu p0 (127 : UInt8)).bind fun x2 =>
    bif decide (x2 < (0 : Int)) then
      (F_basic_None).bind fun x3 =>
      some (([55, 98, 105, 116] : List UInt8), x3)
    else
      (F_quoted_Encode fu p0).bind fun x4 =>
      (F_base64_Encode fu p0).bind fun x5 =>
      bif decide ((List.length x5.2 : Int) < (List.length x4.2 : Int)) then
        (F_basic_None).bind fun x6 =>
        some (([98, 97, 115, 101, 54, 52] : List UInt8), x6)
      else
        (F_basic_None).bind fun x7 =>
        some (([113, 117, 111, 116, 101, 100, 45, 112, 114, 105, 110, 116, 97, 98, 108, 101] : List UInt8), x7)
/- posthouse/posthouseref1.At -/
def F_R1_At (p0 : Int) (p1 : Int) : Option ((Int × Int)) :=
  some (p0, p1)
/- posthouse/posthouselaw2.transferExample -/
def F_W2_transferExample (fu : Nat) : Option Bool :=
  (F_transfer_Encode fu ([(200 : UInt8)] : List UInt8) ([55, 98, 105, 116] : List UInt8)).bind fun x1 =>
  bif decide (0 < List.length ([(61 : UInt8), (52 : UInt8), (49 : UInt8)] : List UInt8)) then
  (F_transfer_Decode fu ([(61 : UInt8), (52 : UInt8), (49 : UInt8)] : List UInt8) ([113, 117, 111, 116, 101, 100, 45, 112, 114, 105, 110, 116, 97, 98, 108, 101] : List UInt8)).bind fun x2 =>
  (F_transfer_Choose fu ([(200 : UInt8), (200 : UInt8), (200 : UInt8)] : List UInt8)).bind fun x3 =>
  (F_R1_At (17 : Int) (0 : Int)).bind fun x4 =>
  bif ((x1.1.1 == x4.1) && ((x1.1.2 == x4.2) && true)) then
    bif x2.1.1 == (0 : Int) then
      bif x3.2.1 == (0 : Int) then
        bif x2.2 == ([65] : List UInt8) then
          some (x3.1 == ([98, 97, 115, 101, 54, 52] : List UInt8))
        else
          some false
      else
        some false
    else
      some false
  else
    some false
  else none
/- posthouse/posthouseref1.In -/
def F_R1_In (p0 : Int) (p1 : Int) (p2 : Int) : Option Bool :=
  bif decide (p1 ≤ p0) then
    some (decide (p0 ≤ p2))
  else
    some false
/- posthouse/posthouseref1.Lower -/
def F_R1_Lower_b0 (fu : Nat) (r0 : Int → (List UInt8) → Option ((List UInt8))) (s4 : Int) (m16 : List UInt8) : Option ((List UInt8)) :=
  bif decide (s4 < (List.length m16 : Int)) then
    bif decide (0 ≤ s4 ∧ s4.toNat < List.length m16) then
    (m16[s4.toNat]?).bind fun y1 =>
    (F_R1_In (y1.toNat : Int) (65 : Int) (90 : Int)).bind fun x2 =>
    bif x2 then
      bif decide (0 ≤ s4 ∧ s4.toNat < List.length m16) then
      (m16[s4.toNat]?).bind fun y3 =>
      bif decide (0 ≤ s4 ∧ s4.toNat < List.length m16) then
      (m16[s4.toNat]?).bind fun y4 =>
      r0 (w64 (s4 + (1 : Int))) (List.set m16 s4.toNat (y3 + (32 : UInt8)))
      else none
      else none
    else
      r0 (w64 (s4 + (1 : Int))) m16
    else none
  else
    some m16
def F_R1_Lower_p0 (fu : Nat) : Nat → Int → (List UInt8) → Option ((List UInt8))
  | 0, _, _ => none
  | n + 1, s4, m16 => F_R1_Lower_b0 fu (F_R1_Lower_p0 fu n) s4 m16
def F_R1_Lower (fu : Nat) (p0 : List UInt8) : Option ((List UInt8)) :=
  bif decide (List.length p0 ≤ maxLen) then
  F_R1_Lower_p0 fu fu (0 : Int) p0
  else none
/- posthouse/posthouseref1.Alike -/
def F_R1_Alike (fu : Nat) (p0 : List UInt8) (p1 : List UInt8) : Option Bool :=
  (F_R1_Lower fu p0).bind fun x1 =>
  (F_R1_Lower fu p1).bind fun x2 =>
  some (x1 == x2)
/- posthouse/posthouseref2.CodingOf -/
def F_R2_CodingOf (fu : Nat) (p0 : List UInt8) : Option Int :=
  bif decide (0 ≤ (0 : Int) ∧ (0 : Int).toNat < List.length ([([55, 98, 105, 116] : List UInt8), ([56, 98, 105, 116] : List UInt8), ([98, 97, 115, 101, 54, 52] : List UInt8), ([113, 117, 111, 116, 101, 100, 45, 112, 114, 105, 110, 116, 97, 98, 108, 101] : List UInt8)] : List (List UInt8))) then
  (([([55, 98, 105, 116] : List UInt8), ([56, 98, 105, 116] : List UInt8), ([98, 97, 115, 101, 54, 52] : List UInt8), ([113, 117, 111, 116, 101, 100, 45, 112, 114, 105, 110, 116, 97, 98, 108, 101] : List UInt8)] : List (List UInt8))[(0 : Int).toNat]?).bind fun y1 =>
  (F_R1_Alike fu y1 p0).bind fun x2 =>
  bif x2 then
    some (0 : Int)
  else
    bif decide (0 ≤ (1 : Int) ∧ (1 : Int).toNat < List.length ([([55, 98, 105, 116] : List UInt8), ([56, 98, 105, 116] : List UInt8), ([98, 97, 115, 101, 54, 52] : List UInt8), ([113, 117, 111, 116, 101, 100, 45, 112, 114, 105, 110, 116, 97, 98, 108, 101] : List UInt8)] : List (List UInt8))) then
    (([([55, 98, 105, 116] : List UInt8), ([56, 98, 105, 116] : List UInt8), ([98, 97, 115, 101, 54, 52] : List UInt8), ([113, 117, 111, 116, 101, 100, 45, 112, 114, 105, 110, 116, 97, 98, 108, 101] : List UInt8)] : List (List UInt8))[(1 : Int).toNat]?).bind fun y3 =>
    (F_R1_Alike fu y3 p0).bind fun x4 =>
    bif x4 then
      some (1 : Int)
    else
      bif decide (0 ≤ (2 : Int) ∧ (2 : Int).toNat < List.length ([([55, 98, 105, 116] : List UInt8), ([56, 98, 105, 116] : List UInt8), ([98, 97, 115, 101, 54, 52] : List UInt8), ([113, 117, 111, 116, 101, 100, 45, 112, 114, 105, 110, 116, 97, 98, 108, 101] : List UInt8)] : List (List UInt8))) then
      (([([55, 98, 105, 116] : List UInt8), ([56, 98, 105, 116] : List UInt8), ([98, 97, 115, 101, 54, 52] : List UInt8), ([113, 117, 111, 116, 101, 100, 45, 112, 114, 105, 110, 116, 97, 98, 108, 101] : List UInt8)] : List (List UInt8))[(2 : Int).toNat]?).bind fun y5 =>
      (F_R1_Alike fu y5 p0).bind fun x6 =>
      bif x6 then
        some (2 : Int)
      else
        bif decide (0 ≤ (3 : Int) ∧ (3 : Int).toNat < List.length ([([55, 98, 105, 116] : List UInt8), ([56, 98, 105, 116] : List UInt8), ([98, 97, 115, 101, 54, 52] : List UInt8), ([113, 117, 111, 116, 101, 100, 45, 112, 114, 105, 110, 116, 97, 98, 108, 101] : List UInt8)] : List (List UInt8))) then
        (([([55, 98, 105, 116] : List UInt8), ([56, 98, 105, 116] : List UInt8), ([98, 97, 115, 101, 54, 52] : List UInt8), ([113, 117, 111, 116, 101, 100, 45, 112, 114, 105, 110, 116, 97, 98, 108, 101] : List UInt8)] : List (List UInt8))[(3 : Int).toNat]?).bind fun y7 =>
        (F_R1_Alike fu y7 p0).bind fun x8 =>
        bif x8 then
          some (3 : Int)
        else
          some (-1 : Int)
        else none
      else none
    else none
  else none
/- posthouse/posthouseref1.Crlf -/
def F_R1_Crlf (p0 : List UInt8) (p1 : Int) : Option Bool :=
  bif decide ((w64 (p1 + (1 : Int))) < (List.length p0 : Int)) then
    (idx p0 p1).bind fun y1 =>
    bif y1 == (13 : UInt8) then
      (idx p0 (w64 (p1 + (1 : Int)))).bind fun y2 =>
      some (y2 == (10 : UInt8))
    else
      some false
  else
    some false
/- posthouse/posthouseref2.Refused -/
def F_R2_Refused_b0 (fu : Nat) (r0 : (List UInt8) → Bool → Int → Int → Option Int) (s0 : List UInt8) (s1 : Bool) (s5 : Int) (s6 : Int) : Option Int :=
  bif decide (s6 < (List.length s0 : Int)) then
    (F_R1_Crlf s0 s6).bind fun x1 =>
    bif x1 then
      r0 s0 s1 (w64 ((w64 (s6 + (1 : Int))) + (1 : Int))) (w64 ((w64 (s6 + (1 : Int))) + (1 : Int)))
    else
      (idx s0 s6).bind fun y2 =>
      bif y2 == (13 : UInt8) then
        some s6
      else
        (idx s0 s6).bind fun y3 =>
        bif y3 == (10 : UInt8) then
          some s6
        else
          (idx s0 s6).bind fun y4 =>
          bif y4 == (0 : UInt8) then
            some s6
          else
            (idx s0 s6).bind fun y5 =>
            bif decide ((127 : UInt8) < y5) then
              bif !s1 then
                some s6
              else
                bif decide ((998 : Int) ≤ (w64 (s6 - s5))) then
                  some s6
                else
                  r0 s0 s1 s5 (w64 (s6 + (1 : Int)))
            else
              bif decide ((998 : Int) ≤ (w64 (s6 - s5))) then
                some s6
              else
                r0 s0 s1 s5 (w64 (s6 + (1 : Int)))
  else
    some (-1 : Int)
def F_R2_Refused_p0 (fu : Nat) : Nat → (List UInt8) → Bool → Int → Int → Option Int
  | 0, _, _, _, _ => none
  | n + 1, s0, s1, s5, s6 => F_R2_Refused_b0 fu (F_R2_Refused_p0 fu n) s0 s1 s5 s6
def F_R2_Refused (fu : Nat) (p0 : List UInt8) (p1 : Bool) : Option Int :=
  F_R2_Refused_p0 fu fu p0 p1 (0 : Int) (0 : Int)
/- posthouse/posthouseref1.Bits -/
def F_R1_Bits_b0 (fu : Nat) (r0 : (List UInt8) → Int → (List Int) → Option ((List Int))) (s0 : List UInt8) (s4 : Int) (m16 : List Int) : Option ((List Int)) :=
  bif decide (s4 < (List.length s0 : Int)) then
    (idx s0 s4).bind fun y1 =>
    bif decide (List.length (m16 ++ ([Int.tmod (Int.fdiv (y1.toNat : Int) (2 ^ min (7 : Int).toNat 64)) (2 : Int)] : List Int)) ≤ rowMax) then
    (idx s0 s4).bind fun y2 =>
    bif decide (List.length ((m16 ++ ([Int.tmod (Int.fdiv (y1.toNat : Int) (2 ^ min (7 : Int).toNat 64)) (2 : Int)] : List Int)) ++ ([Int.tmod (Int.fdiv (y2.toNat : Int) (2 ^ min (6 : Int).toNat 64)) (2 : Int)] : List Int)) ≤ rowMax) then
    (idx s0 s4).bind fun y3 =>
    bif decide (List.length (((m16 ++ ([Int.tmod (Int.fdiv (y1.toNat : Int) (2 ^ min (7 : Int).toNat 64)) (2 : Int)] : List Int)) ++ ([Int.tmod (Int.fdiv (y2.toNat : Int) (2 ^ min (6 : Int).toNat 64)) (2 : Int)] : List Int)) ++ ([Int.tmod (Int.fdiv (y3.toNat : Int) (2 ^ min (5 : Int).toNat 64)) (2 : Int)] : List Int)) ≤ rowMax) then
    (idx s0 s4).bind fun y4 =>
    bif decide (List.length ((((m16 ++ ([Int.tmod (Int.fdiv (y1.toNat : Int) (2 ^ min (7 : Int).toNat 64)) (2 : Int)] : List Int)) ++ ([Int.tmod (Int.fdiv (y2.toNat : Int) (2 ^ min (6 : Int).toNat 64)) (2 : Int)] : List Int)) ++ ([Int.tmod (Int.fdiv (y3.toNat : Int) (2 ^ min (5 : Int).toNat 64)) (2 : Int)] : List Int)) ++ ([Int.tmod (Int.fdiv (y4.toNat : Int) (2 ^ min (4 : Int).toNat 64)) (2 : Int)] : List Int)) ≤ rowMax) then
    (idx s0 s4).bind fun y5 =>
    bif decide (List.length (((((m16 ++ ([Int.tmod (Int.fdiv (y1.toNat : Int) (2 ^ min (7 : Int).toNat 64)) (2 : Int)] : List Int)) ++ ([Int.tmod (Int.fdiv (y2.toNat : Int) (2 ^ min (6 : Int).toNat 64)) (2 : Int)] : List Int)) ++ ([Int.tmod (Int.fdiv (y3.toNat : Int) (2 ^ min (5 : Int).toNat 64)) (2 : Int)] : List Int)) ++ ([Int.tmod (Int.fdiv (y4.toNat : Int) (2 ^ min (4 : Int).toNat 64)) (2 : Int)] : List Int)) ++ ([Int.tmod (Int.fdiv (y5.toNat : Int) (2 ^ min (3 : Int).toNat 64)) (2 : Int)] : List Int)) ≤ rowMax) then
    (idx s0 s4).bind fun y6 =>
    bif decide (List.length ((((((m16 ++ ([Int.tmod (Int.fdiv (y1.toNat : Int) (2 ^ min (7 : Int).toNat 64)) (2 : Int)] : List Int)) ++ ([Int.tmod (Int.fdiv (y2.toNat : Int) (2 ^ min (6 : Int).toNat 64)) (2 : Int)] : List Int)) ++ ([Int.tmod (Int.fdiv (y3.toNat : Int) (2 ^ min (5 : Int).toNat 64)) (2 : Int)] : List Int)) ++ ([Int.tmod (Int.fdiv (y4.toNat : Int) (2 ^ min (4 : Int).toNat 64)) (2 : Int)] : List Int)) ++ ([Int.tmod (Int.fdiv (y5.toNat : Int) (2 ^ min (3 : Int).toNat 64)) (2 : Int)] : List Int)) ++ ([Int.tmod (Int.fdiv (y6.toNat : Int) (2 ^ min (2 : Int).toNat 64)) (2 : Int)] : List Int)) ≤ rowMax) then
    (idx s0 s4).bind fun y7 =>
    bif decide (List.length (((((((m16 ++ ([Int.tmod (Int.fdiv (y1.toNat : Int) (2 ^ min (7 : Int).toNat 64)) (2 : Int)] : List Int)) ++ ([Int.tmod (Int.fdiv (y2.toNat : Int) (2 ^ min (6 : Int).toNat 64)) (2 : Int)] : List Int)) ++ ([Int.tmod (Int.fdiv (y3.toNat : Int) (2 ^ min (5 : Int).toNat 64)) (2 : Int)] : List Int)) ++ ([Int.tmod (Int.fdiv (y4.toNat : Int) (2 ^ min (4 : Int).toNat 64)) (2 : Int)] : List Int)) ++ ([Int.tmod (Int.fdiv (y5.toNat : Int) (2 ^ min (3 : Int).toNat 64)) (2 : Int)] : List Int)) ++ ([Int.tmod (Int.fdiv (y6.toNat : Int) (2 ^ min (2 : Int).toNat 64)) (2 : Int)] : List Int)) ++ ([Int.tmod (Int.fdiv (y7.toNat : Int) (2 ^ min (1 : Int).toNat 64)) (2 : Int)] : List Int)) ≤ rowMax) then
    (idx s0 s4).bind fun y8 =>
    bif decide (List.length ((((((((m16 ++ ([Int.tmod (Int.fdiv (y1.toNat : Int) (2 ^ min (7 : Int).toNat 64)) (2 : Int)] : List Int)) ++ ([Int.tmod (Int.fdiv (y2.toNat : Int) (2 ^ min (6 : Int).toNat 64)) (2 : Int)] : List Int)) ++ ([Int.tmod (Int.fdiv (y3.toNat : Int) (2 ^ min (5 : Int).toNat 64)) (2 : Int)] : List Int)) ++ ([Int.tmod (Int.fdiv (y4.toNat : Int) (2 ^ min (4 : Int).toNat 64)) (2 : Int)] : List Int)) ++ ([Int.tmod (Int.fdiv (y5.toNat : Int) (2 ^ min (3 : Int).toNat 64)) (2 : Int)] : List Int)) ++ ([Int.tmod (Int.fdiv (y6.toNat : Int) (2 ^ min (2 : Int).toNat 64)) (2 : Int)] : List Int)) ++ ([Int.tmod (Int.fdiv (y7.toNat : Int) (2 ^ min (1 : Int).toNat 64)) (2 : Int)] : List Int)) ++ ([Int.tmod (Int.fdiv (y8.toNat : Int) (2 ^ min (0 : Int).toNat 64)) (2 : Int)] : List Int)) ≤ rowMax) then
    r0 s0 (w64 (s4 + (1 : Int))) ((((((((m16 ++ ([Int.tmod (Int.fdiv (y1.toNat : Int) (2 ^ min (7 : Int).toNat 64)) (2 : Int)] : List Int)) ++ ([Int.tmod (Int.fdiv (y2.toNat : Int) (2 ^ min (6 : Int).toNat 64)) (2 : Int)] : List Int)) ++ ([Int.tmod (Int.fdiv (y3.toNat : Int) (2 ^ min (5 : Int).toNat 64)) (2 : Int)] : List Int)) ++ ([Int.tmod (Int.fdiv (y4.toNat : Int) (2 ^ min (4 : Int).toNat 64)) (2 : Int)] : List Int)) ++ ([Int.tmod (Int.fdiv (y5.toNat : Int) (2 ^ min (3 : Int).toNat 64)) (2 : Int)] : List Int)) ++ ([Int.tmod (Int.fdiv (y6.toNat : Int) (2 ^ min (2 : Int).toNat 64)) (2 : Int)] : List Int)) ++ ([Int.tmod (Int.fdiv (y7.toNat : Int) (2 ^ min (1 : Int).toNat 64)) (2 : Int)] : List Int)) ++ ([Int.tmod (Int.fdiv (y8.toNat : Int) (2 ^ min (0 : Int).toNat 64)) (2 : Int)] : List Int))
    else none
    else none
    else none
    else none
    else none
    else none
    else none
    else none
  else
    some m16
def F_R1_Bits_p0 (fu : Nat) : Nat → (List UInt8) → Int → (List Int) → Option ((List Int))
  | 0, _, _, _ => none
  | n + 1, s0, s4, m16 => F_R1_Bits_b0 fu (F_R1_Bits_p0 fu n) s0 s4 m16
def F_R1_Bits (fu : Nat) (p0 : List UInt8) : Option ((List Int)) :=
  F_R1_Bits_p0 fu fu p0 (0 : Int) []
/- posthouse/posthouseref1.sum -/
def F_R1_sum_b0 (fu : Nat) (r0 : (List Int) → Int → Int → Option Int) (s0 : List Int) (s3 : Int) (s4 : Int) : Option Int :=
  bif decide (s4 < (List.length s0 : Int)) then
    (idx s0 s4).bind fun y1 =>
    r0 s0 (w64 ((w64 ((2 : Int) * s3)) + y1)) (w64 (s4 + (1 : Int)))
  else
    some s3
def F_R1_sum_p0 (fu : Nat) : Nat → (List Int) → Int → Int → Option Int
  | 0, _, _, _ => none
  | n + 1, s0, s3, s4 => F_R1_sum_b0 fu (F_R1_sum_p0 fu n) s0 s3 s4
def F_R1_sum (fu : Nat) (p0 : List Int) : Option Int :=
  F_R1_sum_p0 fu fu p0 (0 : Int) (0 : Int)
/- posthouse/posthouseref1.Chars64 -/
def F_R1_Chars64_b2 (fu : Nat) (r2 : (List UInt8) → Option ((List UInt8))) (s4 : List UInt8) : Option ((List UInt8)) :=
  bif (Int.tmod (List.length s4 : Int) (4 : Int)) != (0 : Int) then
    bif decide (List.length s4 + List.length ([61] : List UInt8) ≤ strMax) then
    r2 (s4 ++ ([61] : List UInt8))
    else none
  else
    some s4
def F_R1_Chars64_p2 (fu : Nat) : Nat → (List UInt8) → Option ((List UInt8))
  | 0, _ => none
  | n + 1, s4 => F_R1_Chars64_b2 fu (F_R1_Chars64_p2 fu n) s4
def F_R1_Chars64_b1 (fu : Nat) (r1 : (List Int) → (List UInt8) → Int → Option ((List UInt8))) (s3 : List Int) (s4 : List UInt8) (s5 : Int) : Option ((List UInt8)) :=
  bif decide (s5 < (List.length s3 : Int)) then
    bif decide (0 ≤ s5 ∧ s5 ≤ w64 (s5 + (6 : Int)) ∧ w64 (s5 + (6 : Int)) ≤ (List.length s3 : Int)) then
    (F_R1_sum fu (List.take ((w64 (s5 + (6 : Int))).toNat - s5.toNat) (List.drop s5.toNat s3))).bind fun x1 =>
    bif decide (0 ≤ x1 ∧ x1 ≤ w64 (x1 + (1 : Int)) ∧ w64 (x1 + (1 : Int)) ≤ (List.length ([65, 66, 67, 68, 69, 70, 71, 72, 73, 74, 75, 76, 77, 78, 79, 80, 81, 82, 83, 84, 85, 86, 87, 88, 89, 90, 97, 98, 99, 100, 101, 102, 103, 104, 105, 106, 107, 108, 109, 110, 111, 112, 113, 114, 115, 116, 117, 118, 119, 120, 121, 122, 48, 49, 50, 51, 52, 53, 54, 55, 56, 57, 43, 47] : List UInt8) : Int)) then
    bif decide (List.length s4 + List.length (List.take ((w64 (x1 + (1 : Int))).toNat - x1.toNat) (List.drop x1.toNat ([65, 66, 67, 68, 69, 70, 71, 72, 73, 74, 75, 76, 77, 78, 79, 80, 81, 82, 83, 84, 85, 86, 87, 88, 89, 90, 97, 98, 99, 100, 101, 102, 103, 104, 105, 106, 107, 108, 109, 110, 111, 112, 113, 114, 115, 116, 117, 118, 119, 120, 121, 122, 48, 49, 50, 51, 52, 53, 54, 55, 56, 57, 43, 47] : List UInt8))) ≤ strMax) then
    r1 s3 (s4 ++ (List.take ((w64 (x1 + (1 : Int))).toNat - x1.toNat) (List.drop x1.toNat ([65, 66, 67, 68, 69, 70, 71, 72, 73, 74, 75, 76, 77, 78, 79, 80, 81, 82, 83, 84, 85, 86, 87, 88, 89, 90, 97, 98, 99, 100, 101, 102, 103, 104, 105, 106, 107, 108, 109, 110, 111, 112, 113, 114, 115, 116, 117, 118, 119, 120, 121, 122, 48, 49, 50, 51, 52, 53, 54, 55, 56, 57, 43, 47] : List UInt8)))) (w64 (s5 + (6 : Int)))
    else none
    else none
    else none
  else
    F_R1_Chars64_p2 fu fu s4
def F_R1_Chars64_p1 (fu : Nat) : Nat → (List Int) → (List UInt8) → Int → Option ((List UInt8))
  | 0, _, _, _ => none
  | n + 1, s3, s4, s5 => F_R1_Chars64_b1 fu (F_R1_Chars64_p1 fu n) s3 s4 s5
def F_R1_Chars64_b0 (fu : Nat) (r0 : (List Int) → Option ((List UInt8))) (m16 : List Int) : Option ((List UInt8)) :=
  bif (Int.tmod (List.length m16 : Int) (6 : Int)) != (0 : Int) then
    bif decide (List.length (m16 ++ ([(0 : Int)] : List Int)) ≤ rowMax) then
    r0 (m16 ++ ([(0 : Int)] : List Int))
    else none
  else
    F_R1_Chars64_p1 fu fu m16 ([] : List UInt8) (0 : Int)
def F_R1_Chars64_p0 (fu : Nat) : Nat → (List Int) → Option ((List UInt8))
  | 0, _ => none
  | n + 1, m16 => F_R1_Chars64_b0 fu (F_R1_Chars64_p0 fu n) m16
def F_R1_Chars64 (fu : Nat) (p0 : List UInt8) : Option ((List UInt8)) :=
  (F_R1_Bits fu p0).bind fun x1 =>
  F_R1_Chars64_p0 fu fu x1
/- posthouse/posthouseref1.Lines64 -/
def F_R1_Lines64_b0 (fu : Nat) (r0 : (List UInt8) → (List UInt8) → Option ((List UInt8))) (s3 : List UInt8) (m16 : List UInt8) : Option ((List UInt8)) :=
  bif decide ((76 : Int) < (List.length s3 : Int)) then
    bif decide (0 ≤ (76 : Int) ∧ (76 : Int) ≤ (List.length s3 : Int)) then
    bif decide (List.length (m16 ++ (List.take (76 : Int).toNat s3)) ≤ rowMax) then
    bif decide (List.length ((m16 ++ (List.take (76 : Int).toNat s3)) ++ ([(13 : UInt8), (10 : UInt8)] : List UInt8)) ≤ rowMax) then
    bif decide (0 ≤ (76 : Int) ∧ (76 : Int) ≤ (List.length s3 : Int)) then
    r0 (List.drop (76 : Int).toNat s3) ((m16 ++ (List.take (76 : Int).toNat s3)) ++ ([(13 : UInt8), (10 : UInt8)] : List UInt8))
    else none
    else none
    else none
    else none
  else
    bif !(s3 == ([] : List UInt8)) then
      bif decide (List.length (m16 ++ s3) ≤ rowMax) then
      bif decide (List.length ((m16 ++ s3) ++ ([(13 : UInt8), (10 : UInt8)] : List UInt8)) ≤ rowMax) then
      some ((m16 ++ s3) ++ ([(13 : UInt8), (10 : UInt8)] : List UInt8))
      else none
      else none
    else
      some m16
def F_R1_Lines64_p0 (fu : Nat) : Nat → (List UInt8) → (List UInt8) → Option ((List UInt8))
  | 0, _, _ => none
  | n + 1, s3, m16 => F_R1_Lines64_b0 fu (F_R1_Lines64_p0 fu n) s3 m16
def F_R1_Lines64 (fu : Nat) (p0 : List UInt8) : Option ((List UInt8)) :=
  (F_R1_Chars64 fu p0).bind fun x1 =>
  F_R1_Lines64_p0 fu fu x1 []
/- posthouse/posthouseref1.Blank -/
def F_R1_Blank (p0 : UInt8) : Option Bool :=
  bif p0 == (32 : UInt8) then
    some true
  else
    some (p0 == (9 : UInt8))
/- posthouse/posthouseref1.Two -/
def F_R1_Two (p0 : UInt8) : Option ((List UInt8)) :=
  bif decide (0 ≤ ((p0 / (16 : UInt8)).toNat : Int) ∧ ((p0 / (16 : UInt8)).toNat : Int) ≤ (((p0 / (16 : UInt8)) + (1 : UInt8)).toNat : Int) ∧ (((p0 / (16 : UInt8)) + (1 : UInt8)).toNat : Int) ≤ (List.length ([48, 49, 50, 51, 52, 53, 54, 55, 56, 57, 65, 66, 67, 68, 69, 70] : List UInt8) : Int)) then
  bif decide (0 ≤ ((p0 % (16 : UInt8)).toNat : Int) ∧ ((p0 % (16 : UInt8)).toNat : Int) ≤ (((p0 % (16 : UInt8)) + (1 : UInt8)).toNat : Int) ∧ (((p0 % (16 : UInt8)) + (1 : UInt8)).toNat : Int) ≤ (List.length ([48, 49, 50, 51, 52, 53, 54, 55, 56, 57, 65, 66, 67, 68, 69, 70] : List UInt8) : Int)) then
  bif decide (List.length (List.take ((((p0 / (16 : UInt8)) + (1 : UInt8)).toNat : Int).toNat - ((p0 / (16 : UInt8)).toNat : Int).toNat) (List.drop ((p0 / (16 : UInt8)).toNat : Int).toNat ([48, 49, 50, 51, 52, 53, 54, 55, 56, 57, 65, 66, 67, 68, 69, 70] : List UInt8))) + List.length (List.take ((((p0 % (16 : UInt8)) + (1 : UInt8)).toNat : Int).toNat - ((p0 % (16 : UInt8)).toNat : Int).toNat) (List.drop ((p0 % (16 : UInt8)).toNat : Int).toNat ([48, 49, 50, 51, 52, 53, 54, 55, 56, 57, 65, 66, 67, 68, 69, 70] : List UInt8))) ≤ strMax) then
  some ((List.take ((((p0 / (16 : UInt8)) + (1 : UInt8)).toNat : Int).toNat - ((p0 / (16 : UInt8)).toNat : Int).toNat) (List.drop ((p0 / (16 : UInt8)).toNat : Int).toNat ([48, 49, 50, 51, 52, 53, 54, 55, 56, 57, 65, 66, 67, 68, 69, 70] : List UInt8))) ++ (List.take ((((p0 % (16 : UInt8)) + (1 : UInt8)).toNat : Int).toNat - ((p0 % (16 : UInt8)).toNat : Int).toNat) (List.drop ((p0 % (16 : UInt8)).toNat : Int).toNat ([48, 49, 50, 51, 52, 53, 54, 55, 56, 57, 65, 66, 67, 68, 69, 70] : List UInt8))))
  else none
  else none
  else none
/- posthouse/posthouseref1.LineUnits -/
def F_R1_LineUnits_p1 (fu : Nat) (r0 : (List UInt8) → Int → (List (List UInt8)) → Option ((List (List UInt8)))) (s0 : List UInt8) (s4 : Int) (s5 : UInt8) (s33 : Bool) (m16 : List (List UInt8)) : Option ((List (List UInt8))) :=
  bif s33 then
    bif decide (List.length (m16 ++ ([([s5] : List UInt8)] : List (List UInt8))) ≤ rowMax) then
    r0 s0 (w64 (s4 + (1 : Int))) (m16 ++ ([([s5] : List UInt8)] : List (List UInt8)))
    else none
  else
    (F_R1_Two s5).bind fun x1 =>
    bif decide (List.length ([61] : List UInt8) + List.length x1 ≤ strMax) then
    bif decide (List.length (m16 ++ ([([61] : List UInt8) ++ x1] : List (List UInt8))) ≤ rowMax) then
    r0 s0 (w64 (s4 + (1 : Int))) (m16 ++ ([([61] : List UInt8) ++ x1] : List (List UInt8)))
    else none
    else none
def F_R1_LineUnits_b0 (fu : Nat) (r0 : (List UInt8) → Int → (List (List UInt8)) → Option ((List (List UInt8)))) (s0 : List UInt8) (s4 : Int) (m16 : List (List UInt8)) : Option ((List (List UInt8))) :=
  bif decide (s4 < (List.length s0 : Int)) then
    (idx s0 s4).bind fun y1 =>
    (F_R1_In (y1.toNat : Int) (33 : Int) (126 : Int)).bind fun x2 =>
    bif x2 then
      bif y1 != (61 : UInt8) then
        F_R1_LineUnits_p1 fu r0 s0 s4 y1 true m16
      else
        (F_R1_Blank y1).bind fun x3 =>
        bif x3 then
          F_R1_LineUnits_p1 fu r0 s0 s4 y1 (decide ((w64 (s4 + (1 : Int))) < (List.length s0 : Int))) m16
        else
          F_R1_LineUnits_p1 fu r0 s0 s4 y1 false m16
    else
      (F_R1_Blank y1).bind fun x4 =>
      bif x4 then
        F_R1_LineUnits_p1 fu r0 s0 s4 y1 (decide ((w64 (s4 + (1 : Int))) < (List.length s0 : Int))) m16
      else
        F_R1_LineUnits_p1 fu r0 s0 s4 y1 false m16
  else
    some m16
def F_R1_LineUnits_p0 (fu : Nat) : Nat → (List UInt8) → Int → (List (List UInt8)) → Option ((List (List UInt8)))
  | 0, _, _, _ => none
  | n + 1, s0, s4, m16 => F_R1_LineUnits_b0 fu (F_R1_LineUnits_p0 fu n) s0 s4 m16
def F_R1_LineUnits (fu : Nat) (p0 : List UInt8) : Option ((List (List UInt8))) :=
  F_R1_LineUnits_p0 fu fu p0 (0 : Int) []
/- posthouse/posthouseref1.Quoted -/
def F_R1_Quoted_p3 (fu : Nat) (r0 : (List UInt8) → (List UInt8) → Int → Option ((List UInt8))) (r1 : (List UInt8) → (List UInt8) → Int → Int → Option ((List UInt8))) (s0 : List UInt8) (s3 : List UInt8) (s4 : Int) (s5 : Int) : Option ((List UInt8)) :=
  r1 s0 s3 s4 (w64 (s5 + (1 : Int)))
def F_R1_Quoted_p7 (fu : Nat) (r0 : (List UInt8) → (List UInt8) → Int → Option ((List UInt8))) (r4 : (List UInt8) → (List UInt8) → Int → Int → Int → (List (List UInt8)) → Option ((List UInt8))) (s0 : List UInt8) (s3 : List UInt8) (s5 : Int) (s7 : Int) (s8 : Int) (m16 : List (List UInt8)) : Option ((List UInt8)) :=
  r4 s0 s3 s5 s7 (w64 (s8 + (1 : Int))) m16
def F_R1_Quoted_p6 (fu : Nat) (r0 : (List UInt8) → (List UInt8) → Int → Option ((List UInt8))) (r4 : (List UInt8) → (List UInt8) → Int → Int → Int → (List (List UInt8)) → Option ((List UInt8))) (s0 : List UInt8) (s3 : List UInt8) (s5 : Int) (s7 : Int) (s8 : Int) (m16 : List (List UInt8)) : Option ((List UInt8)) :=
  bif decide (0 ≤ s8 ∧ s8.toNat < List.length m16) then
  (m16[s8.toNat]?).bind fun y1 =>
  bif decide (List.length s3 + List.length y1 ≤ strMax) then
  bif decide (0 ≤ s8 ∧ s8.toNat < List.length m16) then
  (m16[s8.toNat]?).bind fun y2 =>
  F_R1_Quoted_p7 fu r0 r4 s0 (s3 ++ y1) s5 (w64 (s7 + (List.length y2 : Int))) s8 m16
  else none
  else none
  else none
def F_R1_Quoted_p5 (fu : Nat) (r0 : (List UInt8) → (List UInt8) → Int → Option ((List UInt8))) (r4 : (List UInt8) → (List UInt8) → Int → Int → Int → (List (List UInt8)) → Option ((List UInt8))) (s0 : List UInt8) (s3 : List UInt8) (s5 : Int) (s7 : Int) (s8 : Int) (s9 : Int) (m16 : List (List UInt8)) : Option ((List UInt8)) :=
  bif decide (0 ≤ s8 ∧ s8.toNat < List.length m16) then
  (m16[s8.toNat]?).bind fun y1 =>
  bif decide (s9 < (w64 (s7 + (List.length y1 : Int)))) then
    bif decide (List.length s3 + List.length ([61, 13, 10] : List UInt8) ≤ strMax) then
    F_R1_Quoted_p6 fu r0 r4 s0 (s3 ++ ([61, 13, 10] : List UInt8)) s5 (0 : Int) s8 m16
    else none
  else
    F_R1_Quoted_p6 fu r0 r4 s0 s3 s5 s7 s8 m16
  else none
def F_R1_Quoted_b4 (fu : Nat) (r0 : (List UInt8) → (List UInt8) → Int → Option ((List UInt8))) (r4 : (List UInt8) → (List UInt8) → Int → Int → Int → (List (List UInt8)) → Option ((List UInt8))) (s0 : List UInt8) (s3 : List UInt8) (s5 : Int) (s7 : Int) (s8 : Int) (m16 : List (List UInt8)) : Option ((List UInt8)) :=
  bif decide (s8 < (List.length m16 : Int)) then
    bif (w64 (s8 + (1 : Int))) == (List.length m16 : Int) then
      F_R1_Quoted_p5 fu r0 r4 s0 s3 s5 s7 s8 (76 : Int) m16
    else
      F_R1_Quoted_p5 fu r0 r4 s0 s3 s5 s7 s8 (75 : Int) m16
  else
    bif s5 == (List.length s0 : Int) then
      bif decide (List.length s3 ≤ maxLen) then
      some s3
      else none
    else
      bif decide (List.length s3 + List.length ([13, 10] : List UInt8) ≤ strMax) then
      r0 s0 (s3 ++ ([13, 10] : List UInt8)) (w64 (s5 + (2 : Int)))
      else none
def F_R1_Quoted_p4 (fu : Nat) (r0 : (List UInt8) → (List UInt8) → Int → Option ((List UInt8))) : Nat → (List UInt8) → (List UInt8) → Int → Int → Int → (List (List UInt8)) → Option ((List UInt8))
  | 0, _, _, _, _, _, _ => none
  | n + 1, s0, s3, s5, s7, s8, m16 => F_R1_Quoted_b4 fu r0 (F_R1_Quoted_p4 fu r0 n) s0 s3 s5 s7 s8 m16
def F_R1_Quoted_p2 (fu : Nat) (r0 : (List UInt8) → (List UInt8) → Int → Option ((List UInt8))) (r1 : (List UInt8) → (List UInt8) → Int → Int → Option ((List UInt8))) (s0 : List UInt8) (s3 : List UInt8) (s4 : Int) (s5 : Int) (s24 : Bool) : Option ((List UInt8)) :=
  bif s24 then
    F_R1_Quoted_p3 fu r0 r1 s0 s3 s4 s5
  else
    bif decide (0 ≤ s4 ∧ s4 ≤ s5 ∧ s5 ≤ (List.length s0 : Int)) then
    (F_R1_LineUnits fu (List.take (s5.toNat - s4.toNat) (List.drop s4.toNat s0))).bind fun x1 =>
    F_R1_Quoted_p4 fu r0 fu s0 s3 s5 (0 : Int) (0 : Int) x1
    else none
def F_R1_Quoted_b1 (fu : Nat) (r0 : (List UInt8) → (List UInt8) → Int → Option ((List UInt8))) (r1 : (List UInt8) → (List UInt8) → Int → Int → Option ((List UInt8))) (s0 : List UInt8) (s3 : List UInt8) (s4 : Int) (s5 : Int) : Option ((List UInt8)) :=
  bif decide (s5 < (List.length s0 : Int)) then
    (F_R1_Crlf s0 s5).bind fun x1 =>
    F_R1_Quoted_p2 fu r0 r1 s0 s3 s4 s5 (!x1)
  else
    F_R1_Quoted_p2 fu r0 r1 s0 s3 s4 s5 false
def F_R1_Quoted_p1 (fu : Nat) (r0 : (List UInt8) → (List UInt8) → Int → Option ((List UInt8))) : Nat → (List UInt8) → (List UInt8) → Int → Int → Option ((List UInt8))
  | 0, _, _, _, _ => none
  | n + 1, s0, s3, s4, s5 => F_R1_Quoted_b1 fu r0 (F_R1_Quoted_p1 fu r0 n) s0 s3 s4 s5
def F_R1_Quoted_b0 (fu : Nat) (r0 : (List UInt8) → (List UInt8) → Int → Option ((List UInt8))) (s0 : List UInt8) (s3 : List UInt8) (s4 : Int) : Option ((List UInt8)) :=
  bif decide (s4 ≤ (List.length s0 : Int)) then
    F_R1_Quoted_p1 fu r0 fu s0 s3 s4 s4
  else
    bif decide (List.length s3 ≤ maxLen) then
    some s3
    else none
def F_R1_Quoted_p0 (fu : Nat) : Nat → (List UInt8) → (List UInt8) → Int → Option ((List UInt8))
  | 0, _, _, _ => none
  | n + 1, s0, s3, s4 => F_R1_Quoted_b0 fu (F_R1_Quoted_p0 fu n) s0 s3 s4
def F_R1_Quoted (fu : Nat) (p0 : List UInt8) : Option ((List UInt8)) :=
  F_R1_Quoted_p0 fu fu p0 ([] : List UInt8) (0 : Int)
/- posthouse/posthouseref2.Transferred -/
def F_R2_Transferred (fu : Nat) (p0 : List UInt8) (p1 : Int) : Option ((List UInt8)) :=
  bif p1 == (2 : Int) then
    (F_R1_Lines64 fu p0).bind fun x1 =>
    some x1
  else
    bif p1 == (3 : Int) then
      (F_R1_Quoted fu p0).bind fun x2 =>
      some x2
    else
      some p0
/- posthouse/posthouseref1.Bytes -/
def F_R1_Bytes (p0 : List UInt8) (p1 : List UInt8) : Option Bool :=
  some (p0 == p1)
/- posthouse/posthouselaw2.TransferEncodeMatchesSpec -/
def F_W2_TransferEncodeMatchesSpec_p0 (fu : Nat) (s0 : List UInt8) (s7 : Int) (s47 : Bool) (m16 : List UInt8) (m17 : Int × Int) : Option Bool :=
  bif s47 then
    (F_R2_Refused fu s0 (s7 == (1 : Int))).bind fun x1 =>
    (F_R1_At (17 : Int) x1).bind fun x2 =>
    bif ((m17.1 == x2.1) && ((m17.2 == x2.2) && true)) then
      some ((List.length m16 : Int) == (0 : Int))
    else
      some false
  else
    bif m17.1 == (0 : Int) then
      (F_R2_Transferred fu s0 s7).bind fun x3 =>
      (F_R1_Bytes m16 x3).bind fun x4 =>
      some x4
    else
      some false
def F_W2_TransferEncodeMatchesSpec (fu : Nat) (p0 : List UInt8) (p1 : List UInt8) : Option Bool :=
  (F_W2_transferExample fu).bind fun x1 =>
  bif !x1 then
    some false
  else
    (F_transfer_Encode fu p0 p1).bind fun x2 =>
    (F_R2_CodingOf fu p1).bind fun x3 =>
    bif decide (x3 < (0 : Int)) then
      (F_R1_At (18 : Int) (-3 : Int)).bind fun x4 =>
      bif ((x2.1.1 == x4.1) && ((x2.1.2 == x4.2) && true)) then
        some ((List.length x2.2 : Int) == (0 : Int))
      else
        some false
    else
      bif decide ((12000 : Int) < (List.length p0 : Int)) then
        (F_R1_At (1 : Int) (-1 : Int)).bind fun x5 =>
        bif ((x2.1.1 == x5.1) && ((x2.1.2 == x5.2) && true)) then
          some ((List.length x2.2 : Int) == (0 : Int))
        else
          some false
      else
        bif decide (x3 < (2 : Int)) then
          (F_R2_Refused fu p0 (x3 == (1 : Int))).bind fun x6 =>
          F_W2_TransferEncodeMatchesSpec_p0 fu p0 x3 (decide ((0 : Int) ≤ x6)) x2.2 x2.1
        else
          F_W2_TransferEncodeMatchesSpec_p0 fu p0 x3 false x2.2 x2.1
/- posthouse/posthouseref1.value64 -/
def F_R1_value64_b0 (fu : Nat) (r0 : UInt8 → Int → Option Int) (s0 : UInt8) (s3 : Int) : Option Int :=
  bif decide (s3 < (64 : Int)) then
    (idx ([65, 66, 67, 68, 69, 70, 71, 72, 73, 74, 75, 76, 77, 78, 79, 80, 81, 82, 83, 84, 85, 86, 87, 88, 89, 90, 97, 98, 99, 100, 101, 102, 103, 104, 105, 106, 107, 108, 109, 110, 111, 112, 113, 114, 115, 116, 117, 118, 119, 120, 121, 122, 48, 49, 50, 51, 52, 53, 54, 55, 56, 57, 43, 47] : List UInt8) s3).bind fun c1 =>
    bif c1 == s0 then
      some s3
    else
      r0 s0 (w64 (s3 + (1 : Int)))
  else
    some (-1 : Int)
def F_R1_value64_p0 (fu : Nat) : Nat → UInt8 → Int → Option Int
  | 0, _, _ => none
  | n + 1, s0, s3 => F_R1_value64_b0 fu (F_R1_value64_p0 fu n) s0 s3
def F_R1_value64 (fu : Nat) (p0 : UInt8) : Option Int :=
  F_R1_value64_p0 fu fu p0 (0 : Int)
/- posthouse/posthouseref1.Loose64 -/
def F_R1_Loose64_p6 (fu : Nat) (r0 : (List UInt8) → Int → (List Int) → Option ((List UInt8))) (r4 : (List UInt8) → Int → Int → Int → (List Int) → Option ((List UInt8))) (s0 : List UInt8) (s4 : Int) (s5 : Int) (s6 : Int) (m16 : List Int) : Option ((List UInt8)) :=
  bif decide (0 ≤ IntKind.u64.wrap (s6)) then
  bif decide (List.length (m16 ++ ([Int.tmod (Int.fdiv s5 (2 ^ min (IntKind.u64.wrap (s6)).toNat 64)) (2 : Int)] : List Int)) ≤ rowMax) then
  r4 s0 s4 s5 (w64 (s6 - (1 : Int))) (m16 ++ ([Int.tmod (Int.fdiv s5 (2 ^ min (IntKind.u64.wrap (s6)).toNat 64)) (2 : Int)] : List Int))
  else none
  else none
def F_R1_Loose64_p5 (fu : Nat) (r0 : (List UInt8) → Int → (List Int) → Option ((List UInt8))) (r4 : (List UInt8) → Int → Int → Int → (List Int) → Option ((List UInt8))) (s0 : List UInt8) (s4 : Int) (s5 : Int) (s6 : Int) (s32 : Bool) (m16 : List Int) : Option ((List UInt8)) :=
  bif s32 then
    F_R1_Loose64_p6 fu r0 r4 s0 s4 s5 s6 m16
  else
    r0 s0 (w64 (s4 + (1 : Int))) m16
def F_R1_Loose64_b4 (fu : Nat) (r0 : (List UInt8) → Int → (List Int) → Option ((List UInt8))) (r4 : (List UInt8) → Int → Int → Int → (List Int) → Option ((List UInt8))) (s0 : List UInt8) (s4 : Int) (s5 : Int) (s6 : Int) (m16 : List Int) : Option ((List UInt8)) :=
  bif decide ((0 : Int) ≤ s6) then
    F_R1_Loose64_p5 fu r0 r4 s0 s4 s5 s6 (decide ((0 : Int) ≤ s5)) m16
  else
    F_R1_Loose64_p5 fu r0 r4 s0 s4 s5 s6 false m16
def F_R1_Loose64_p4 (fu : Nat) (r0 : (List UInt8) → Int → (List Int) → Option ((List UInt8))) : Nat → (List UInt8) → Int → Int → Int → (List Int) → Option ((List UInt8))
  | 0, _, _, _, _, _ => none
  | n + 1, s0, s4, s5, s6, m16 => F_R1_Loose64_b4 fu r0 (F_R1_Loose64_p4 fu r0 n) s0 s4 s5 s6 m16
def F_R1_Loose64_p2 (fu : Nat) (r0 : (List UInt8) → Int → (List Int) → Option ((List UInt8))) (s0 : List UInt8) (s4 : Int) (m16 : List Int) : Option ((List UInt8)) :=
  (idx s0 s4).bind fun y1 =>
  (F_R1_value64 fu y1).bind fun x2 =>
  F_R1_Loose64_p4 fu r0 fu s0 s4 x2 (5 : Int) m16
def F_R1_Loose64_b3 (fu : Nat) (r3 : (List Int) → Int → (List UInt8) → Option ((List UInt8))) (s3 : List Int) (s8 : Int) (m17 : List UInt8) : Option ((List UInt8)) :=
  bif decide ((w64 (s8 + (8 : Int))) ≤ (List.length s3 : Int)) then
    bif decide (0 ≤ s8 ∧ s8 ≤ w64 (s8 + (8 : Int)) ∧ w64 (s8 + (8 : Int)) ≤ (List.length s3 : Int)) then
    (F_R1_sum fu (List.take ((w64 (s8 + (8 : Int))).toNat - s8.toNat) (List.drop s8.toNat s3))).bind fun x1 =>
    bif decide (List.length (m17 ++ ([toU8 x1] : List UInt8)) ≤ rowMax) then
    r3 s3 (w64 (s8 + (8 : Int))) (m17 ++ ([toU8 x1] : List UInt8))
    else none
    else none
  else
    some m17
def F_R1_Loose64_p3 (fu : Nat) : Nat → (List Int) → Int → (List UInt8) → Option ((List UInt8))
  | 0, _, _, _ => none
  | n + 1, s3, s8, m17 => F_R1_Loose64_b3 fu (F_R1_Loose64_p3 fu n) s3 s8 m17
def F_R1_Loose64_p1 (fu : Nat) (r0 : (List UInt8) → Int → (List Int) → Option ((List UInt8))) (s0 : List UInt8) (s4 : Int) (s19 : Bool) (m16 : List Int) : Option ((List UInt8)) :=
  bif s19 then
    F_R1_Loose64_p2 fu r0 s0 s4 m16
  else
    F_R1_Loose64_p3 fu fu m16 (0 : Int) []
def F_R1_Loose64_b0 (fu : Nat) (r0 : (List UInt8) → Int → (List Int) → Option ((List UInt8))) (s0 : List UInt8) (s4 : Int) (m16 : List Int) : Option ((List UInt8)) :=
  bif decide (s4 < (List.length s0 : Int)) then
    (idx s0 s4).bind fun y1 =>
    F_R1_Loose64_p1 fu r0 s0 s4 (y1 != (61 : UInt8)) m16
  else
    F_R1_Loose64_p1 fu r0 s0 s4 false m16
def F_R1_Loose64_p0 (fu : Nat) : Nat → (List UInt8) → Int → (List Int) → Option ((List UInt8))
  | 0, _, _, _ => none
  | n + 1, s0, s4, m16 => F_R1_Loose64_b0 fu (F_R1_Loose64_p0 fu n) s0 s4 m16
def F_R1_Loose64 (fu : Nat) (p0 : List UInt8) : Option ((List UInt8)) :=
  F_R1_Loose64_p0 fu fu p0 (0 : Int) []
/- posthouse/posthouseref1.Hex -/
def F_R1_Hex_b0 (fu : Nat) (r0 : UInt8 → Int → Option Int) (s0 : UInt8) (s3 : Int) : Option Int :=
  bif decide (s3 < (16 : Int)) then
    (idx ([48, 49, 50, 51, 52, 53, 54, 55, 56, 57, 65, 66, 67, 68, 69, 70] : List UInt8) s3).bind fun c1 =>
    bif c1 == s0 then
      some s3
    else
      (F_R1_Lower fu ([48, 49, 50, 51, 52, 53, 54, 55, 56, 57, 65, 66, 67, 68, 69, 70] : List UInt8)).bind fun x2 =>
      (idx x2 s3).bind fun c3 =>
      bif c3 == s0 then
        some s3
      else
        r0 s0 (w64 (s3 + (1 : Int)))
  else
    some (-1 : Int)
def F_R1_Hex_p0 (fu : Nat) : Nat → UInt8 → Int → Option Int
  | 0, _, _ => none
  | n + 1, s0, s3 => F_R1_Hex_b0 fu (F_R1_Hex_p0 fu n) s0 s3
def F_R1_Hex (fu : Nat) (p0 : UInt8) : Option Int :=
  F_R1_Hex_p0 fu fu p0 (0 : Int)
/- posthouse/posthouseref1.LooseQuoted -/
def F_R1_LooseQuoted_p3 (fu : Nat) (r0 : (List UInt8) → Int → (List UInt8) → Option ((List UInt8))) (r1 : (List UInt8) → Int → Int → (List UInt8) → Option ((List UInt8))) (s0 : List UInt8) (s4 : Int) (s5 : Int) (m16 : List UInt8) : Option ((List UInt8)) :=
  r1 s0 s4 (w64 (s5 + (1 : Int))) m16
def F_R1_LooseQuoted_p8 (fu : Nat) (r0 : (List UInt8) → Int → (List UInt8) → Option ((List UInt8))) (r6 : (List UInt8) → Int → Int → Int → Int → (List UInt8) → Option ((List UInt8))) (s0 : List UInt8) (s4 : Int) (s5 : Int) (s6 : Int) (s7 : Int) (m16 : List UInt8) : Option ((List UInt8)) :=
  r6 s0 s4 s5 s6 (w64 (s7 - (1 : Int))) m16
def F_R1_LooseQuoted_p13 (fu : Nat) (r0 : (List UInt8) → Int → (List UInt8) → Option ((List UInt8))) (r11 : (List UInt8) → Int → Int → Int → Bool → Int → (List UInt8) → Option ((List UInt8))) (s0 : List UInt8) (s5 : Int) (s6 : Int) (s7 : Int) (s8 : Bool) (s9 : Int) (m16 : List UInt8) : Option ((List UInt8)) :=
  r11 s0 s5 s6 s7 s8 (w64 (s9 + (1 : Int))) m16
def F_R1_LooseQuoted_p12 (fu : Nat) (r0 : (List UInt8) → Int → (List UInt8) → Option ((List UInt8))) (r11 : (List UInt8) → Int → Int → Int → Bool → Int → (List UInt8) → Option ((List UInt8))) (s0 : List UInt8) (s5 : Int) (s6 : Int) (s7 : Int) (s8 : Bool) (s9 : Int) (s110 : Bool) (m16 : List UInt8) : Option ((List UInt8)) :=
  bif s110 then
    (idx s0 (w64 (s9 + (1 : Int)))).bind fun y1 =>
    (F_R1_Hex fu y1).bind fun x2 =>
    (idx s0 (w64 (s9 + (2 : Int)))).bind fun y3 =>
    (F_R1_Hex fu y3).bind fun x4 =>
    bif decide (List.length (m16 ++ ([toU8 (w64 ((w64 ((16 : Int) * x2)) + x4))] : List UInt8)) ≤ rowMax) then
    F_R1_LooseQuoted_p13 fu r0 r11 s0 s5 s6 s7 s8 (w64 (s9 + (2 : Int))) (m16 ++ ([toU8 (w64 ((w64 ((16 : Int) * x2)) + x4))] : List UInt8))
    else none
  else
    (idx s0 s9).bind fun y5 =>
    bif decide (List.length (m16 ++ ([y5] : List UInt8)) ≤ rowMax) then
    F_R1_LooseQuoted_p13 fu r0 r11 s0 s5 s6 s7 s8 s9 (m16 ++ ([y5] : List UInt8))
    else none
def F_R1_LooseQuoted_b11 (fu : Nat) (r0 : (List UInt8) → Int → (List UInt8) → Option ((List UInt8))) (r11 : (List UInt8) → Int → Int → Int → Bool → Int → (List UInt8) → Option ((List UInt8))) (s0 : List UInt8) (s5 : Int) (s6 : Int) (s7 : Int) (s8 : Bool) (s9 : Int) (m16 : List UInt8) : Option ((List UInt8)) :=
  bif decide (s9 < s7) then
    (idx s0 s9).bind fun y1 =>
    bif y1 == (61 : UInt8) then
      bif decide ((w64 (s9 + (2 : Int))) < s7) then
        (idx s0 (w64 (s9 + (1 : Int)))).bind fun y2 =>
        (F_R1_Hex fu y2).bind fun x3 =>
        bif decide ((0 : Int) ≤ x3) then
          (idx s0 (w64 (s9 + (2 : Int)))).bind fun y4 =>
          (F_R1_Hex fu y4).bind fun x5 =>
          F_R1_LooseQuoted_p12 fu r0 r11 s0 s5 s6 s7 s8 s9 (decide ((0 : Int) ≤ x5)) m16
        else
          F_R1_LooseQuoted_p12 fu r0 r11 s0 s5 s6 s7 s8 s9 false m16
      else
        F_R1_LooseQuoted_p12 fu r0 r11 s0 s5 s6 s7 s8 s9 false m16
    else
      F_R1_LooseQuoted_p12 fu r0 r11 s0 s5 s6 s7 s8 s9 false m16
  else
    bif decide (s5 < (List.length s0 : Int)) then
      bif !s8 then
        bif decide (0 ≤ s6 ∧ s6 ≤ w64 (s5 + (1 : Int)) ∧ w64 (s5 + (1 : Int)) ≤ (List.length s0 : Int)) then
        bif decide (List.length (m16 ++ (List.take ((w64 (s5 + (1 : Int))).toNat - s6.toNat) (List.drop s6.toNat s0))) ≤ rowMax) then
        r0 s0 (w64 (s5 + (1 : Int))) (m16 ++ (List.take ((w64 (s5 + (1 : Int))).toNat - s6.toNat) (List.drop s6.toNat s0)))
        else none
        else none
      else
        r0 s0 (w64 (s5 + (1 : Int))) m16
    else
      r0 s0 (w64 (s5 + (1 : Int))) m16
def F_R1_LooseQuoted_p11 (fu : Nat) (r0 : (List UInt8) → Int → (List UInt8) → Option ((List UInt8))) : Nat → (List UInt8) → Int → Int → Int → Bool → Int → (List UInt8) → Option ((List UInt8))
  | 0, _, _, _, _, _, _, _ => none
  | n + 1, s0, s5, s6, s7, s8, s9, m16 => F_R1_LooseQuoted_b11 fu r0 (F_R1_LooseQuoted_p11 fu r0 n) s0 s5 s6 s7 s8 s9 m16
def F_R1_LooseQuoted_p10 (fu : Nat) (r0 : (List UInt8) → Int → (List UInt8) → Option ((List UInt8))) (s0 : List UInt8) (s4 : Int) (s5 : Int) (s6 : Int) (s7 : Int) (s8 : Bool) (m16 : List UInt8) : Option ((List UInt8)) :=
  F_R1_LooseQuoted_p11 fu r0 fu s0 s5 s6 s7 s8 s4 m16
def F_R1_LooseQuoted_p9 (fu : Nat) (r0 : (List UInt8) → Int → (List UInt8) → Option ((List UInt8))) (s0 : List UInt8) (s4 : Int) (s5 : Int) (s6 : Int) (s7 : Int) (s8 : Bool) (m16 : List UInt8) : Option ((List UInt8)) :=
  bif s8 then
    F_R1_LooseQuoted_p10 fu r0 s0 s4 s5 s6 (w64 (s7 - (1 : Int))) s8 m16
  else
    F_R1_LooseQuoted_p10 fu r0 s0 s4 s5 s6 s7 s8 m16
def F_R1_LooseQuoted_p7 (fu : Nat) (r0 : (List UInt8) → Int → (List UInt8) → Option ((List UInt8))) (r6 : (List UInt8) → Int → Int → Int → Int → (List UInt8) → Option ((List UInt8))) (s0 : List UInt8) (s4 : Int) (s5 : Int) (s6 : Int) (s7 : Int) (s59 : Bool) (m16 : List UInt8) : Option ((List UInt8)) :=
  bif s59 then
    F_R1_LooseQuoted_p8 fu r0 r6 s0 s4 s5 s6 s7 m16
  else
    bif decide (s4 < s7) then
      (idx s0 (w64 (s7 - (1 : Int)))).bind fun y1 =>
      F_R1_LooseQuoted_p9 fu r0 s0 s4 s5 s6 s7 (y1 == (61 : UInt8)) m16
    else
      F_R1_LooseQuoted_p9 fu r0 s0 s4 s5 s6 s7 false m16
def F_R1_LooseQuoted_b6 (fu : Nat) (r0 : (List UInt8) → Int → (List UInt8) → Option ((List UInt8))) (r6 : (List UInt8) → Int → Int → Int → Int → (List UInt8) → Option ((List UInt8))) (s0 : List UInt8) (s4 : Int) (s5 : Int) (s6 : Int) (s7 : Int) (m16 : List UInt8) : Option ((List UInt8)) :=
  bif decide (s4 < s7) then
    (idx s0 (w64 (s7 - (1 : Int)))).bind fun y1 =>
    (F_R1_Blank y1).bind fun x2 =>
    F_R1_LooseQuoted_p7 fu r0 r6 s0 s4 s5 s6 s7 x2 m16
  else
    F_R1_LooseQuoted_p7 fu r0 r6 s0 s4 s5 s6 s7 false m16
def F_R1_LooseQuoted_p6 (fu : Nat) (r0 : (List UInt8) → Int → (List UInt8) → Option ((List UInt8))) : Nat → (List UInt8) → Int → Int → Int → Int → (List UInt8) → Option ((List UInt8))
  | 0, _, _, _, _, _, _ => none
  | n + 1, s0, s4, s5, s6, s7, m16 => F_R1_LooseQuoted_b6 fu r0 (F_R1_LooseQuoted_p6 fu r0 n) s0 s4 s5 s6 s7 m16
def F_R1_LooseQuoted_p5 (fu : Nat) (r0 : (List UInt8) → Int → (List UInt8) → Option ((List UInt8))) (s0 : List UInt8) (s4 : Int) (s5 : Int) (s6 : Int) (m16 : List UInt8) : Option ((List UInt8)) :=
  F_R1_LooseQuoted_p6 fu r0 fu s0 s4 s5 s6 s6 m16
def F_R1_LooseQuoted_p4 (fu : Nat) (r0 : (List UInt8) → Int → (List UInt8) → Option ((List UInt8))) (s0 : List UInt8) (s4 : Int) (s5 : Int) (s6 : Int) (s45 : Bool) (m16 : List UInt8) : Option ((List UInt8)) :=
  bif s45 then
    F_R1_LooseQuoted_p5 fu r0 s0 s4 s5 (w64 (s6 - (1 : Int))) m16
  else
    F_R1_LooseQuoted_p5 fu r0 s0 s4 s5 s6 m16
def F_R1_LooseQuoted_p2 (fu : Nat) (r0 : (List UInt8) → Int → (List UInt8) → Option ((List UInt8))) (r1 : (List UInt8) → Int → Int → (List UInt8) → Option ((List UInt8))) (s0 : List UInt8) (s4 : Int) (s5 : Int) (s25 : Bool) (m16 : List UInt8) : Option ((List UInt8)) :=
  bif s25 then
    F_R1_LooseQuoted_p3 fu r0 r1 s0 s4 s5 m16
  else
    bif decide (s5 < (List.length s0 : Int)) then
      bif decide (s4 < s5) then
        (idx s0 (w64 (s5 - (1 : Int)))).bind fun y1 =>
        F_R1_LooseQuoted_p4 fu r0 s0 s4 s5 s5 (y1 == (13 : UInt8)) m16
      else
        F_R1_LooseQuoted_p4 fu r0 s0 s4 s5 s5 false m16
    else
      F_R1_LooseQuoted_p4 fu r0 s0 s4 s5 s5 false m16
def F_R1_LooseQuoted_b1 (fu : Nat) (r0 : (List UInt8) → Int → (List UInt8) → Option ((List UInt8))) (r1 : (List UInt8) → Int → Int → (List UInt8) → Option ((List UInt8))) (s0 : List UInt8) (s4 : Int) (s5 : Int) (m16 : List UInt8) : Option ((List UInt8)) :=
  bif decide (s5 < (List.length s0 : Int)) then
    (idx s0 s5).bind fun y1 =>
    F_R1_LooseQuoted_p2 fu r0 r1 s0 s4 s5 (y1 != (10 : UInt8)) m16
  else
    F_R1_LooseQuoted_p2 fu r0 r1 s0 s4 s5 false m16
def F_R1_LooseQuoted_p1 (fu : Nat) (r0 : (List UInt8) → Int → (List UInt8) → Option ((List UInt8))) : Nat → (List UInt8) → Int → Int → (List UInt8) → Option ((List UInt8))
  | 0, _, _, _, _ => none
  | n + 1, s0, s4, s5, m16 => F_R1_LooseQuoted_b1 fu r0 (F_R1_LooseQuoted_p1 fu r0 n) s0 s4 s5 m16
def F_R1_LooseQuoted_b0 (fu : Nat) (r0 : (List UInt8) → Int → (List UInt8) → Option ((List UInt8))) (s0 : List UInt8) (s4 : Int) (m16 : List UInt8) : Option ((List UInt8)) :=
  bif decide (s4 < (List.length s0 : Int)) then
    F_R1_LooseQuoted_p1 fu r0 fu s0 s4 s4 m16
  else
    some m16
def F_R1_LooseQuoted_p0 (fu : Nat) : Nat → (List UInt8) → Int → (List UInt8) → Option ((List UInt8))
  | 0, _, _, _ => none
  | n + 1, s0, s4, m16 => F_R1_LooseQuoted_b0 fu (F_R1_LooseQuoted_p0 fu n) s0 s4 m16
def F_R1_LooseQuoted (fu : Nat) (p0 : List UInt8) : Option ((List UInt8)) :=
  F_R1_LooseQuoted_p0 fu fu p0 (0 : Int) []
/- posthouse/posthouseref2.Untransferred -/
def F_R2_Untransferred (fu : Nat) (p0 : List UInt8) (p1 : Int) : Option ((List UInt8)) :=
  bif p1 == (2 : Int) then
    (F_R1_Loose64 fu p0).bind fun x1 =>
    some x1
  else
    bif p1 == (3 : Int) then
      (F_R1_LooseQuoted fu p0).bind fun x2 =>
      some x2
    else
      some p0
/- posthouse/posthouselaw2.TransferDecodeMatchesSpec -/
def F_W2_TransferDecodeMatchesSpec (fu : Nat) (p0 : List UInt8) (p1 : List UInt8) : Option Bool :=
  (F_W2_transferExample fu).bind fun x1 =>
  bif !x1 then
    some false
  else
    (F_transfer_Decode fu p0 p1).bind fun x2 =>
    (F_R2_CodingOf fu p1).bind fun x3 =>
    bif decide (x3 < (0 : Int)) then
      (F_R1_At (18 : Int) (-3 : Int)).bind fun x4 =>
      bif ((x2.1.1 == x4.1) && ((x2.1.2 == x4.2) && true)) then
        some ((List.length x2.2 : Int) == (0 : Int))
      else
        some false
    else
      bif decide ((12000 : Int) < (List.length p0 : Int)) then
        (F_R1_At (1 : Int) (-1 : Int)).bind fun x5 =>
        bif ((x2.1.1 == x5.1) && ((x2.1.2 == x5.2) && true)) then
          some ((List.length x2.2 : Int) == (0 : Int))
        else
          some false
      else
        bif x2.1.1 == (0 : Int) then
          (F_R2_Untransferred fu p0 x3).bind fun x6 =>
          (F_R1_Bytes x2.2 x6).bind fun x7 =>
          some x7
        else
          some false
/- posthouse/posthouselaw2.TransferChooseMatchesSpec -/
def F_W2_TransferChooseMatchesSpec (fu : Nat) (p0 : List UInt8) : Option Bool :=
  (F_W2_transferExample fu).bind fun x1 =>
  bif !x1 then
    some false
  else
    (F_transfer_Choose fu p0).bind fun x2 =>
    bif decide ((12000 : Int) < (List.length p0 : Int)) then
      (F_R1_At (1 : Int) (-1 : Int)).bind fun x3 =>
      bif ((x2.2.1 == x3.1) && ((x2.2.2 == x3.2) && true)) then
        some (x2.1 == ([] : List UInt8))
      else
        some false
    else
      (F_R2_Refused fu p0 false).bind fun x4 =>
      bif decide (x4 < (0 : Int)) then
        bif x2.2.1 == (0 : Int) then
          some (x2.1 == ([55, 98, 105, 116] : List UInt8))
        else
          some false
      else
        (F_R1_Quoted fu p0).bind fun x5 =>
        (F_R1_Lines64 fu p0).bind fun x6 =>
        bif decide ((List.length x5 : Int) ≤ (List.length x6 : Int)) then
          bif x2.2.1 == (0 : Int) then
            some (x2.1 == ([113, 117, 111, 116, 101, 100, 45, 112, 114, 105, 110, 116, 97, 98, 108, 101] : List UInt8))
          else
            some false
        else
          bif x2.2.1 == (0 : Int) then
            some (x2.1 == ([98, 97, 115, 101, 54, 52] : List UInt8))
          else
            some false
/- posthouse/posthouselaw2.TransferRoundTrip -/
def F_W2_TransferRoundTrip_p1 (fu : Nat) (s0 : List UInt8) (s1 : List UInt8) (m16 : List UInt8) : Option Bool :=
  (F_transfer_Decode fu m16 s1).bind fun x1 =>
  bif x1.1.1 == (0 : Int) then
    (F_R1_Bytes x1.2 s0).bind fun x2 =>
    some x2
  else
    some false
def F_W2_TransferRoundTrip_p0 (fu : Nat) (s0 : List UInt8) (s1 : List UInt8) (s24 : Bool) (m16 : List UInt8) (m17 : Int × Int) : Option Bool :=
  bif s24 then
    bif m17.1 == (0 : Int) then
      some true
    else
      some ((List.length m16 : Int) == (0 : Int))
  else
    F_W2_TransferRoundTrip_p1 fu s0 s1 m16
def F_W2_TransferRoundTrip (fu : Nat) (p0 : List UInt8) (p1 : List UInt8) : Option Bool :=
  (F_W2_transferExample fu).bind fun x1 =>
  bif !x1 then
    some false
  else
    (F_transfer_Encode fu p0 p1).bind fun x2 =>
    bif x2.1.1 != (0 : Int) then
      F_W2_TransferRoundTrip_p0 fu p0 p1 true x2.2 x2.1
    else
      F_W2_TransferRoundTrip_p0 fu p0 p1 (decide ((12000 : Int) < (List.length x2.2 : Int))) x2.2 x2.1
/- posthouse/posthouselaw2.TransferChosenFits -/
def F_W2_TransferChosenFits_p1 (fu : Nat) (m16 : List UInt8) : Option Bool :=
  (F_transfer_Encode fu m16 ([55, 98, 105, 116] : List UInt8)).bind fun x1 =>
  bif x1.1.1 == (0 : Int) then
    (F_R1_Bytes m16 x1.2).bind fun x2 =>
    some x2
  else
    some false
def F_W2_TransferChosenFits_p0 (fu : Nat) (s34 : Bool) (m16 : List UInt8) (m17 : Int × Int) : Option Bool :=
  bif s34 then
    some (m17.1 == (0 : Int))
  else
    F_W2_TransferChosenFits_p1 fu m16
def F_W2_TransferChosenFits (fu : Nat) (p0 : List UInt8) : Option Bool :=
  (F_W2_transferExample fu).bind fun x1 =>
  bif !x1 then
    some false
  else
    (F_transfer_Choose fu p0).bind fun x2 =>
    bif x2.2.1 != (0 : Int) then
      some (x2.1 == ([] : List UInt8))
    else
      (F_transfer_Encode fu p0 x2.1).bind fun x3 =>
      bif x3.1.1 != (0 : Int) then
        F_W2_TransferChosenFits_p0 fu true x3.2 x3.1
      else
        F_W2_TransferChosenFits_p0 fu (decide ((12000 : Int) < (List.length x3.2 : Int))) x3.2 x3.1
end Go.Sym
/- The Go functions compute the plain functions: printed by a program; each is reckoned by the kernel. -/
namespace Go.Sym
open Go.Proofs
set_option linter.unusedVariables false
set_option maxRecDepth 100000
noncomputable def lcOf : Nat → Option (Code × Code)
  | 0 => some (child 0 (sub (bodyOf Tryd.f30) [0, 1, 0, 1, 1, 1, 1]), child 1 (sub (bodyOf Tryd.f30) [0, 1, 0, 1, 1, 1, 1]))
  | _ => none
noncomputable instance : LC := ⟨lcOf⟩
theorem Tryd_mixed : Tryd.prog.follows .mixedOrders = true := by kernel_rfl
def etys : List (Nat × Ty) := [(3, .int .i64), (5, .byte), (9, .str)]
theorem F_bytealg_IndexByte_ok60 : (F_bytealg_IndexByte_ent 60 F_bytealg_IndexByte).Sound Tryd.prog := F_bytealg_IndexByte_ok Tryd.func60 (by kernel_rfl) (by kernel_rfl) (by kernel_rfl) (by kernel_rfl)
/- posthouse/transfer.plain -/
def F_transfer_plain_out : RS ((List UInt8) × UInt8) := .one (α := (List UInt8) × UInt8) (.agg [.h .str, .fn 52 [.ptr 0 0], .fn 53 []]) [(0, .cells [.h .byte] 5)] (fun r => ((r.1, (((), ()), ((), ()))), ((r.2, ()), ()))) (fun y => (y.1.1, y.2.1.1)) (fun _ => rfl)
def F_transfer_plain_hp : List (Nat × BPt) := []
def F_transfer_plain_args : List Pt := [.h .str, .h .byte]
def F_transfer_plain_ent (r : (List UInt8) → UInt8 → Option ((List UInt8) × UInt8)) : Ent := { key := .fn 45, args := F_transfer_plain_args, hp := F_transfer_plain_hp, R := ((List UInt8) × UInt8), F := fun d _ => r d.1 d.2.1, out := F_transfer_plain_out }
noncomputable def F_transfer_plain_cx : Cx := { P := Tryd.prog, tb := ⟨[], etys, false⟩, fn := Tryd.f45, f := 45, ids := idsB F_transfer_plain_hp, rd := none, tags := [] }
theorem F_transfer_plain_cxok : (F_transfer_plain_cx).Ok (bodyOf Tryd.f45) := ⟨ents0, Tryd_mixed, Tryd.func45, tags0⟩
theorem F_transfer_plain_ok : (F_transfer_plain_ent (F_transfer_plain)).Sound Tryd.prog :=
  Ent.sound_fn (cx := F_transfer_plain_cx) (labs := []) (F_transfer_plain_cxok) rfl rfl rfl rfl Tryd.call45 (by kernel_rfl) (fun _ => labs0) (fun d d' => by kernel_rfl)
/- posthouse/basic.Lower -/
def F_basic_Lower_out : RS ((List UInt8)) := .one (α := (List UInt8)) (.h .str) [] (fun r => (r, ())) (fun y => y.1) (fun _ => rfl)
def F_basic_Lower_hp : List (Nat × BPt) := []
def F_basic_Lower_args : List Pt := [.h .str]
def F_basic_Lower_ent (r : (List UInt8) → Option ((List UInt8))) : Ent := { key := .fn 59, args := F_basic_Lower_args, hp := F_basic_Lower_hp, R := ((List UInt8)), F := fun d _ => r d.1, out := F_basic_Lower_out }
noncomputable def F_basic_Lower_cx (fu : Nat) : Cx := { P := Tryd.prog, tb := ⟨[], etys, false⟩, fn := Tryd.f59, f := 59, ids := idsB F_basic_Lower_hp, rd := none, tags := [] }
theorem F_basic_Lower_cxok (fu : Nat) : (F_basic_Lower_cx fu).Ok (bodyOf Tryd.f59) := ⟨ents0, Tryd_mixed, Tryd.func59, tags0⟩
def F_basic_Lower_l0 (r : Int → Int → (List UInt8) → Option ((List UInt8))) : Lab ((List UInt8)) := ⟨[(0, [0, 0, 0, 1, 0, 1, 1]), (0, [1, 0, 0, 1, 0, 1, 1]), (2, [0, 1, 0, 1, 1]), (1, [1, 0, 1, 1]), (0, [1, 1, 1])], ⟨30, [(3, .own 16), (8, .own 16), (9, .h (.int .i64)), (10, .h (.int .i64))], [(16, .row .byte 5)], 64, []⟩, fun d => r d.1.2.2.1 d.1.2.2.2.1 d.2.1⟩
theorem F_basic_Lower_b0_ok (fu : Nat) (d' : bden F_basic_Lower_hp) (r0 : Int → Int → (List UInt8) → Option ((List UInt8))) (h0 : LabOk (F_basic_Lower_cx fu) (bput F_basic_Lower_hp d') F_basic_Lower_out (bodyOf Tryd.f59) (F_basic_Lower_l0 r0)) : LabOk (F_basic_Lower_cx fu) (bput F_basic_Lower_hp d') F_basic_Lower_out (bodyOf Tryd.f59) (F_basic_Lower_l0 (F_basic_Lower_b0 fu r0)) :=
  LabOk.of_run (labs := [F_basic_Lower_l0 (r0)]) (F_basic_Lower_cxok fu) (fun _ _ h => idsB_look h) (labs1 h0 labs0) (fun d => by kernel_rfl)
theorem F_basic_Lower_p0_ok (fu : Nat) (d' : bden F_basic_Lower_hp) : ∀ n, LabOk (F_basic_Lower_cx fu) (bput F_basic_Lower_hp d') F_basic_Lower_out (bodyOf Tryd.f59) (F_basic_Lower_l0 (F_basic_Lower_p0 fu n))
  | 0 => fun _ _ h => by cases h
  | n + 1 => F_basic_Lower_b0_ok fu d' (F_basic_Lower_p0 fu n) (F_basic_Lower_p0_ok fu d' n)
theorem F_basic_Lower_ok (fu : Nat) : (F_basic_Lower_ent (F_basic_Lower fu)).Sound Tryd.prog :=
  Ent.sound_fn (cx := F_basic_Lower_cx fu) (labs := [F_basic_Lower_l0 (F_basic_Lower_p0 fu fu)]) (F_basic_Lower_cxok fu) rfl rfl rfl rfl Tryd.call59 (by kernel_rfl) (fun d' => (labs1 (F_basic_Lower_p0_ok fu d' fu) labs0)) (fun d d' => by kernel_rfl)
/- posthouse/basic.Same -/
def F_basic_Same_out : RS Bool := .one (α := Bool) (.h .bool) [] (fun r => (r, ())) (fun y => y.1) (fun _ => rfl)
def F_basic_Same_hp : List (Nat × BPt) := []
def F_basic_Same_args : List Pt := [.h .str, .h .str]
def F_basic_Same_ent (r : (List UInt8) → (List UInt8) → Option Bool) : Ent := { key := .fn 48, args := F_basic_Same_args, hp := F_basic_Same_hp, R := Bool, F := fun d _ => r d.1 d.2.1, out := F_basic_Same_out }
noncomputable def F_basic_Same_cx (fu : Nat) : Cx := { P := Tryd.prog, tb := ⟨[F_basic_Lower_ent (F_basic_Lower fu)], etys, false⟩, fn := Tryd.f48, f := 48, ids := idsB F_basic_Same_hp, rd := none, tags := [] }
theorem F_basic_Same_cxok (fu : Nat) : (F_basic_Same_cx fu).Ok (bodyOf Tryd.f48) := ⟨(ents1 (F_basic_Lower_ok fu) ents0), Tryd_mixed, Tryd.func48, tags0⟩
theorem F_basic_Same_ok (fu : Nat) : (F_basic_Same_ent (F_basic_Same fu)).Sound Tryd.prog :=
  Ent.sound_fn (cx := F_basic_Same_cx fu) (labs := []) (F_basic_Same_cxok fu) rfl rfl rfl rfl Tryd.call48 (by kernel_rfl) (fun _ => labs0) (fun d d' => by kernel_rfl)
/- posthouse/transfer.find -/
def F_transfer_find_out : RS R_transfer_find := .two (.one (α := (List UInt8) × Bool × UInt8) (.tup [.agg [.h .str, .fn 52 [.ptr 0 0], .fn 53 []], .h .bool]) [(0, .cells [.h .byte] 5)] (fun r => (((r.1, (((), ()), ((), ()))), (r.2.1, ())), ((r.2.2, ()), ()))) (fun y => (y.1.1.1, y.1.2.1, y.2.1.1)) (fun _ => rfl)) (.two (.one (α := (List UInt8) × Bool) (.tup [.agg [.h .str, .fn 30 [], .fn 46 []], .h .bool]) [] (fun r => (((r.1, ((), ((), ()))), (r.2, ())), ())) (fun y => (y.1.1.1, y.1.2.1)) (fun _ => rfl)) (.two (.one (α := (List UInt8) × Bool) (.tup [.agg [.h .str, .fn 29 [], .fn 47 []], .h .bool]) [] (fun r => (((r.1, ((), ((), ()))), (r.2, ())), ())) (fun y => (y.1.1.1, y.1.2.1)) (fun _ => rfl)) (.one (α := (List UInt8) × Bool) (.tup [.agg [.h .str, .c .nilFunc, .c .nilFunc], .h .bool]) [] (fun r => (((r.1, ((), ((), ()))), (r.2, ())), ())) (fun y => (y.1.1.1, y.1.2.1)) (fun _ => rfl))))
def F_transfer_find_hp : List (Nat × BPt) := []
def F_transfer_find_args : List Pt := [.h .str]
def F_transfer_find_ent (r : (List UInt8) → Option R_transfer_find) : Ent := { key := .fn 33, args := F_transfer_find_args, hp := F_transfer_find_hp, R := R_transfer_find, F := fun d _ => r d.1, out := F_transfer_find_out }
noncomputable def F_transfer_find_cx (fu : Nat) : Cx := { P := Tryd.prog, tb := ⟨[F_transfer_plain_ent F_transfer_plain, F_basic_Same_ent (F_basic_Same fu)], etys, false⟩, fn := Tryd.f33, f := 33, ids := idsB F_transfer_find_hp, rd := none, tags := [] }
theorem F_transfer_find_cxok (fu : Nat) : (F_transfer_find_cx fu).Ok (bodyOf Tryd.f33) := ⟨(ents1 F_transfer_plain_ok (ents1 (F_basic_Same_ok fu) ents0)), Tryd_mixed, Tryd.func33, tags0⟩
theorem F_transfer_find_ok (fu : Nat) : (F_transfer_find_ent (F_transfer_find fu)).Sound Tryd.prog :=
  Ent.sound_fn (cx := F_transfer_find_cx fu) (labs := []) (F_transfer_find_cxok fu) rfl rfl rfl rfl Tryd.call33 (by kernel_rfl) (fun _ => labs0) (fun d d' => by kernel_rfl)
/- posthouse/basic.Fault -/
def F_basic_Fault_out : RS ((Int × Int)) := .one (α := (Int × Int)) (.h (.prod (.int .i64) (.int .i64))) [] (fun r => (r, ())) (fun y => y.1) (fun _ => rfl)
def F_basic_Fault_hp : List (Nat × BPt) := []
def F_basic_Fault_args : List Pt := [.h (.int .i64), .h (.int .i64)]
def F_basic_Fault_ent (r : Int → Int → Option ((Int × Int))) : Ent := { key := .fn 26, args := F_basic_Fault_args, hp := F_basic_Fault_hp, R := ((Int × Int)), F := fun d _ => r d.1 d.2.1, out := F_basic_Fault_out }
noncomputable def F_basic_Fault_cx : Cx := { P := Tryd.prog, tb := ⟨[], etys, false⟩, fn := Tryd.f26, f := 26, ids := idsB F_basic_Fault_hp, rd := none, tags := [] }
theorem F_basic_Fault_cxok : (F_basic_Fault_cx).Ok (bodyOf Tryd.f26) := ⟨ents0, Tryd_mixed, Tryd.func26, tags0⟩
theorem F_basic_Fault_ok : (F_basic_Fault_ent (F_basic_Fault)).Sound Tryd.prog :=
  Ent.sound_fn (cx := F_basic_Fault_cx) (labs := []) (F_basic_Fault_cxok) rfl rfl rfl rfl Tryd.call26 (by kernel_rfl) (fun _ => labs0) (fun d d' => by kernel_rfl)
/- posthouse/basic.None -/
def F_basic_None_out : RS ((Int × Int)) := .one (α := (Int × Int)) (.h (.prod (.int .i64) (.int .i64))) [] (fun r => (r, ())) (fun y => y.1) (fun _ => rfl)
def F_basic_None_hp : List (Nat × BPt) := []
def F_basic_None_args : List Pt := []
def F_basic_None_ent (r : Option ((Int × Int))) : Ent := { key := .fn 28, args := F_basic_None_args, hp := F_basic_None_hp, R := ((Int × Int)), F := fun _ _ => r, out := F_basic_None_out }
noncomputable def F_basic_None_cx : Cx := { P := Tryd.prog, tb := ⟨[], etys, false⟩, fn := Tryd.f28, f := 28, ids := idsB F_basic_None_hp, rd := none, tags := [] }
theorem F_basic_None_cxok : (F_basic_None_cx).Ok (bodyOf Tryd.f28) := ⟨ents0, Tryd_mixed, Tryd.func28, tags0⟩
theorem F_basic_None_ok : (F_basic_None_ent (F_basic_None)).Sound Tryd.prog :=
  Ent.sound_fn (cx := F_basic_None_cx) (labs := []) (F_basic_None_cxok) rfl rfl rfl rfl Tryd.call28 (by kernel_rfl) (fun _ => labs0) (fun d d' => by kernel_rfl)
/- posthouse/transfer.valid -/
def F_transfer_valid_out : RS R_transfer_valid := .two (.one (α := (List UInt8) × (Int × Int) × UInt8) (.tup [.agg [.h .str, .fn 52 [.ptr 0 0], .fn 53 []], .h (.prod (.int .i64) (.int .i64))]) [(0, .cells [.h .byte] 5)] (fun r => (((r.1, (((), ()), ((), ()))), (r.2.1, ())), ((r.2.2, ()), ()))) (fun y => (y.1.1.1, y.1.2.1, y.2.1.1)) (fun _ => rfl)) (.two (.one (α := (List UInt8) × (Int × Int)) (.tup [.agg [.h .str, .fn 30 [], .fn 46 []], .h (.prod (.int .i64) (.int .i64))]) [] (fun r => (((r.1, ((), ((), ()))), (r.2, ())), ())) (fun y => (y.1.1.1, y.1.2.1)) (fun _ => rfl)) (.two (.one (α := (List UInt8) × (Int × Int)) (.tup [.agg [.h .str, .fn 29 [], .fn 47 []], .h (.prod (.int .i64) (.int .i64))]) [] (fun r => (((r.1, ((), ((), ()))), (r.2, ())), ())) (fun y => (y.1.1.1, y.1.2.1)) (fun _ => rfl)) (.one (α := (List UInt8) × (Int × Int)) (.tup [.agg [.h .str, .c .nilFunc, .c .nilFunc], .h (.prod (.int .i64) (.int .i64))]) [] (fun r => (((r.1, ((), ((), ()))), (r.2, ())), ())) (fun y => (y.1.1.1, y.1.2.1)) (fun _ => rfl))))
def F_transfer_valid_hp : List (Nat × BPt) := []
def F_transfer_valid_args : List Pt := [.h (.list .byte), .h .str]
def F_transfer_valid_ent (r : (List UInt8) → (List UInt8) → Option R_transfer_valid) : Ent := { key := .fn 20, args := F_transfer_valid_args, hp := F_transfer_valid_hp, R := R_transfer_valid, F := fun d _ => r d.1 d.2.1, out := F_transfer_valid_out }
noncomputable def F_transfer_valid_cx (fu : Nat) : Cx := { P := Tryd.prog, tb := ⟨[F_transfer_find_ent (F_transfer_find fu), F_basic_Fault_ent F_basic_Fault, F_basic_None_ent F_basic_None], etys, false⟩, fn := Tryd.f20, f := 20, ids := idsB F_transfer_valid_hp, rd := none, tags := [] }
theorem F_transfer_valid_cxok (fu : Nat) : (F_transfer_valid_cx fu).Ok (bodyOf Tryd.f20) := ⟨(ents1 (F_transfer_find_ok fu) (ents1 F_basic_Fault_ok (ents1 F_basic_None_ok ents0))), Tryd_mixed, Tryd.func20, tags0⟩
theorem F_transfer_valid_ok (fu : Nat) : (F_transfer_valid_ent (F_transfer_valid fu)).Sound Tryd.prog :=
  Ent.sound_fn (cx := F_transfer_valid_cx fu) (labs := []) (F_transfer_valid_cxok fu) rfl rfl rfl rfl Tryd.call20 (by kernel_rfl) (fun _ => labs0) (fun d d' => by kernel_rfl)
/- posthouse/basic.Failed -/
def F_basic_Failed_out : RS Bool := .one (α := Bool) (.h .bool) [] (fun r => (r, ())) (fun y => y.1) (fun _ => rfl)
def F_basic_Failed_hp : List (Nat × BPt) := []
def F_basic_Failed_args : List Pt := [.h (.prod (.int .i64) (.int .i64))]
def F_basic_Failed_ent (r : (Int × Int) → Option Bool) : Ent := { key := .fn 21, args := F_basic_Failed_args, hp := F_basic_Failed_hp, R := Bool, F := fun d _ => r d.1, out := F_basic_Failed_out }
noncomputable def F_basic_Failed_cx : Cx := { P := Tryd.prog, tb := ⟨[], etys, false⟩, fn := Tryd.f21, f := 21, ids := idsB F_basic_Failed_hp, rd := none, tags := [] }
theorem F_basic_Failed_cxok : (F_basic_Failed_cx).Ok (bodyOf Tryd.f21) := ⟨ents0, Tryd_mixed, Tryd.func21, tags0⟩
theorem F_basic_Failed_ok : (F_basic_Failed_ent (F_basic_Failed)).Sound Tryd.prog :=
  Ent.sound_fn (cx := F_basic_Failed_cx) (labs := []) (F_basic_Failed_cxok) rfl rfl rfl rfl Tryd.call21 (by kernel_rfl) (fun _ => labs0) (fun d d' => by kernel_rfl)
/- posthouse/transfer.wrong -/
def F_transfer_wrong_out : RS Int := .one (α := Int) (.h (.int .i64)) [] (fun r => (r, ())) (fun y => y.1) (fun _ => rfl)
def F_transfer_wrong_hp : List (Nat × BPt) := []
def F_transfer_wrong_args : List Pt := [.h (.list .byte), .h .byte]
def F_transfer_wrong_ent (r : (List UInt8) → UInt8 → Option Int) : Ent := { key := .fn 27, args := F_transfer_wrong_args, hp := F_transfer_wrong_hp, R := Int, F := fun d _ => r d.1 d.2.1, out := F_transfer_wrong_out }
noncomputable def F_transfer_wrong_cx (fu : Nat) : Cx := { P := Tryd.prog, tb := ⟨[], etys, false⟩, fn := Tryd.f27, f := 27, ids := idsB F_transfer_wrong_hp, rd := none, tags := [] }
theorem F_transfer_wrong_cxok (fu : Nat) : (F_transfer_wrong_cx fu).Ok (bodyOf Tryd.f27) := ⟨ents0, Tryd_mixed, Tryd.func27, tags0⟩
def F_transfer_wrong_l2 (r : (List UInt8) → UInt8 → Int → Int → UInt8 → Option Int) : Lab Int := ⟨[(0, [0, 0, 1, 1, 0, 0, 1, 0, 0, 1, 0, 1, 1]), (0, [1, 0, 1, 1, 0, 0, 1, 0, 0, 1, 0, 1, 1]), (0, [1, 1, 1, 0, 0, 1, 0, 0, 1, 0, 1, 1]), (1, [0, 1, 0, 0, 1, 0, 1, 1]), (0, [1, 1, 0, 0, 1, 0, 1, 1]), (2, [0, 1, 0, 1, 1]), (1, [1, 0, 1, 1]), (0, [1, 1, 1])], ⟨59, [(0, .h (.list .byte)), (1, .h .byte), (5, .h (.int .i64)), (6, .h (.int .i64)), (7, .h .byte)], [], 64, []⟩, fun d => r d.1.1 d.1.2.1 d.1.2.2.1 d.1.2.2.2.1 d.1.2.2.2.2.1⟩
def F_transfer_wrong_l1 (r : (List UInt8) → UInt8 → Int → Int → UInt8 → Bool → Option Int) : Lab Int := ⟨[(0, [1, 0, 1, 0, 0, 1, 0, 0, 1, 0, 1, 1]), (0, [1, 1, 0, 0, 1, 0, 0, 1, 0, 1, 1]), (1, [0, 1, 0, 0, 1, 0, 1, 1]), (0, [1, 1, 0, 0, 1, 0, 1, 1]), (2, [0, 1, 0, 1, 1]), (1, [1, 0, 1, 1]), (0, [1, 1, 1])], ⟨59, [(0, .h (.list .byte)), (1, .h .byte), (5, .h (.int .i64)), (6, .h (.int .i64)), (7, .h .byte), (34, .h .bool)], [], 64, []⟩, fun d => r d.1.1 d.1.2.1 d.1.2.2.1 d.1.2.2.2.1 d.1.2.2.2.2.1 d.1.2.2.2.2.2.1⟩
def F_transfer_wrong_l0 (r : (List UInt8) → UInt8 → Int → Int → Option Int) : Lab Int := ⟨[(0, [0, 0, 0, 0, 1, 0, 1, 1]), (0, [1, 0, 0, 0, 1, 0, 1, 1]), (0, [1, 0, 0, 1, 0, 1, 1]), (2, [0, 1, 0, 1, 1]), (1, [1, 0, 1, 1]), (0, [1, 1, 1])], ⟨59, [(0, .h (.list .byte)), (1, .h .byte), (5, .h (.int .i64)), (6, .h (.int .i64))], [], 64, []⟩, fun d => r d.1.1 d.1.2.1 d.1.2.2.1 d.1.2.2.2.1⟩
theorem F_transfer_wrong_p2_ok (fu : Nat) (d' : bden F_transfer_wrong_hp) (r0 : (List UInt8) → UInt8 → Int → Int → Option Int) (h0 : LabOk (F_transfer_wrong_cx fu) (bput F_transfer_wrong_hp d') F_transfer_wrong_out (bodyOf Tryd.f27) (F_transfer_wrong_l0 r0)) : LabOk (F_transfer_wrong_cx fu) (bput F_transfer_wrong_hp d') F_transfer_wrong_out (bodyOf Tryd.f27) (F_transfer_wrong_l2 (F_transfer_wrong_p2 fu r0)) :=
  LabOk.of_run (labs := [F_transfer_wrong_l0 (r0)]) (F_transfer_wrong_cxok fu) (fun _ _ h => idsB_look h) (labs1 h0 labs0) (fun d => by kernel_rfl)
theorem F_transfer_wrong_p1_ok (fu : Nat) (d' : bden F_transfer_wrong_hp) (r0 : (List UInt8) → UInt8 → Int → Int → Option Int) (h0 : LabOk (F_transfer_wrong_cx fu) (bput F_transfer_wrong_hp d') F_transfer_wrong_out (bodyOf Tryd.f27) (F_transfer_wrong_l0 r0)) : LabOk (F_transfer_wrong_cx fu) (bput F_transfer_wrong_hp d') F_transfer_wrong_out (bodyOf Tryd.f27) (F_transfer_wrong_l1 (F_transfer_wrong_p1 fu r0)) :=
  LabOk.of_run (labs := [F_transfer_wrong_l0 (r0), F_transfer_wrong_l2 (F_transfer_wrong_p2 fu r0)]) (F_transfer_wrong_cxok fu) (fun _ _ h => idsB_look h) (labs1 h0 (labs1 (F_transfer_wrong_p2_ok fu d' r0 h0) labs0)) (fun d => by kernel_rfl)
theorem F_transfer_wrong_b0_ok (fu : Nat) (d' : bden F_transfer_wrong_hp) (r0 : (List UInt8) → UInt8 → Int → Int → Option Int) (h0 : LabOk (F_transfer_wrong_cx fu) (bput F_transfer_wrong_hp d') F_transfer_wrong_out (bodyOf Tryd.f27) (F_transfer_wrong_l0 r0)) : LabOk (F_transfer_wrong_cx fu) (bput F_transfer_wrong_hp d') F_transfer_wrong_out (bodyOf Tryd.f27) (F_transfer_wrong_l0 (F_transfer_wrong_b0 fu r0)) :=
  LabOk.of_run (labs := [F_transfer_wrong_l1 (F_transfer_wrong_p1 fu r0)]) (F_transfer_wrong_cxok fu) (fun _ _ h => idsB_look h) (labs1 (F_transfer_wrong_p1_ok fu d' r0 h0) labs0) (fun d => by kernel_rfl)
theorem F_transfer_wrong_p0_ok (fu : Nat) (d' : bden F_transfer_wrong_hp) : ∀ n, LabOk (F_transfer_wrong_cx fu) (bput F_transfer_wrong_hp d') F_transfer_wrong_out (bodyOf Tryd.f27) (F_transfer_wrong_l0 (F_transfer_wrong_p0 fu n))
  | 0 => fun _ _ h => by cases h
  | n + 1 => F_transfer_wrong_b0_ok fu d' (F_transfer_wrong_p0 fu n) (F_transfer_wrong_p0_ok fu d' n)
theorem F_transfer_wrong_ok (fu : Nat) : (F_transfer_wrong_ent (F_transfer_wrong fu)).Sound Tryd.prog :=
  Ent.sound_fn (cx := F_transfer_wrong_cx fu) (labs := [F_transfer_wrong_l0 (F_transfer_wrong_p0 fu fu)]) (F_transfer_wrong_cxok fu) rfl rfl rfl rfl Tryd.call27 (by kernel_rfl) (fun d' => (labs1 (F_transfer_wrong_p0_ok fu d' fu) labs0)) (fun d d' => by kernel_rfl)
/- posthouse/transfer.copied -/
def F_transfer_copied_out : RS ((Int × Int) × (List UInt8)) := .one (α := (Int × Int) × (List UInt8)) (.tup [.own 0, .h (.prod (.int .i64) (.int .i64))]) [(0, .row .byte 5)] (fun r => (((), (r.1, ())), (r.2, ()))) (fun y => (y.1.2.1, y.2.1)) (fun _ => rfl)
def F_transfer_copied_hp : List (Nat × BPt) := []
def F_transfer_copied_args : List Pt := [.h (.list .byte)]
def F_transfer_copied_ent (r : (List UInt8) → Option ((Int × Int) × (List UInt8))) : Ent := { key := .fn 53, args := F_transfer_copied_args, hp := F_transfer_copied_hp, R := ((Int × Int) × (List UInt8)), F := fun d _ => r d.1, out := F_transfer_copied_out }
noncomputable def F_transfer_copied_cx : Cx := { P := Tryd.prog, tb := ⟨[F_basic_None_ent F_basic_None], etys, false⟩, fn := Tryd.f53, f := 53, ids := idsB F_transfer_copied_hp, rd := none, tags := [] }
theorem F_transfer_copied_cxok : (F_transfer_copied_cx).Ok (bodyOf Tryd.f53) := ⟨(ents1 F_basic_None_ok ents0), Tryd_mixed, Tryd.func53, tags0⟩
theorem F_transfer_copied_ok : (F_transfer_copied_ent (F_transfer_copied)).Sound Tryd.prog :=
  Ent.sound_fn (cx := F_transfer_copied_cx) (labs := []) (F_transfer_copied_cxok) rfl rfl rfl rfl Tryd.call53 (by kernel_rfl) (fun _ => labs0) (fun d d' => by kernel_rfl)
/- posthouse/transfer.plain$1 -/
def F_transfer_plain_1_out : RS ((Int × Int) × UInt8 × (List UInt8)) := .one (α := (Int × Int) × UInt8 × (List UInt8)) (.tup [.own 1, .h (.prod (.int .i64) (.int .i64))]) [(0, .cells [.h .byte] 5), (1, .row .byte 5)] (fun r => (((), (r.1, ())), ((r.2.1, ()), (r.2.2, ())))) (fun y => (y.1.2.1, y.2.1.1, y.2.2.1)) (fun _ => rfl)
def F_transfer_plain_1_hp : List (Nat × BPt) := [(0, .cells [.h .byte] 5)]
def F_transfer_plain_1_args : List Pt := [.h (.list .byte), .ptr 0 0]
def F_transfer_plain_1_ent (r : (List UInt8) → UInt8 → Option ((Int × Int) × UInt8 × (List UInt8))) : Ent := { key := .fn 52, args := F_transfer_plain_1_args, hp := F_transfer_plain_1_hp, R := ((Int × Int) × UInt8 × (List UInt8)), F := fun d d' => r d.1 d'.1.1, out := F_transfer_plain_1_out }
noncomputable def F_transfer_plain_1_cx (fu : Nat) : Cx := { P := Tryd.prog, tb := ⟨[F_transfer_wrong_ent (F_transfer_wrong fu), F_basic_Fault_ent F_basic_Fault, F_transfer_copied_ent F_transfer_copied], etys, false⟩, fn := Tryd.f52, f := 52, ids := idsB F_transfer_plain_1_hp, rd := none, tags := [] }
theorem F_transfer_plain_1_cxok (fu : Nat) : (F_transfer_plain_1_cx fu).Ok (bodyOf Tryd.f52) := ⟨(ents1 (F_transfer_wrong_ok fu) (ents1 F_basic_Fault_ok (ents1 F_transfer_copied_ok ents0))), Tryd_mixed, Tryd.func52, tags0⟩
theorem F_transfer_plain_1_ok (fu : Nat) : (F_transfer_plain_1_ent (F_transfer_plain_1 fu)).Sound Tryd.prog :=
  Ent.sound_fn (cx := F_transfer_plain_1_cx fu) (labs := []) (F_transfer_plain_1_cxok fu) rfl rfl rfl rfl Tryd.call52 (by kernel_rfl) (fun _ => labs0) (fun d d' => by kernel_rfl)
/- posthouse/base64.groups -/
def F_base64_groups_out : RS ((List UInt8)) := .one (α := (List UInt8)) (.fn 51 [.ptr 0 0]) [(0, .cells [.h (.list .byte)] 22)] (fun r => (((), ()), ((r, ()), ()))) (fun y => y.2.1.1) (fun _ => rfl)
def F_base64_groups_hp : List (Nat × BPt) := []
def F_base64_groups_args : List Pt := [.h (.list .byte)]
def F_base64_groups_ent (r : (List UInt8) → Option ((List UInt8))) : Ent := { key := .fn 41, args := F_base64_groups_args, hp := F_base64_groups_hp, R := ((List UInt8)), F := fun d _ => r d.1, out := F_base64_groups_out }
noncomputable def F_base64_groups_cx : Cx := { P := Tryd.prog, tb := ⟨[], etys, false⟩, fn := Tryd.f41, f := 41, ids := idsB F_base64_groups_hp, rd := none, tags := [] }
theorem F_base64_groups_cxok : (F_base64_groups_cx).Ok (bodyOf Tryd.f41) := ⟨ents0, Tryd_mixed, Tryd.func41, tags0⟩
theorem F_base64_groups_ok : (F_base64_groups_ent (F_base64_groups)).Sound Tryd.prog :=
  Ent.sound_fn (cx := F_base64_groups_cx) (labs := []) (F_base64_groups_cxok) rfl rfl rfl rfl Tryd.call41 (by kernel_rfl) (fun _ => labs0) (fun d d' => by kernel_rfl)
/- posthouse/base64.Encode -/
def F_base64_Encode_r0_out : RS (Int × (List UInt8)) := .one (α := Int × (List UInt8)) (.c (.bool true)) [(0, .loop .ready none 30 31 [(4, .ptr 1 0), (5, .ptr 2 0)] [13] 0 3), (1, .cells [.own 5] 22), (2, .cells [.h (.int .i64)] 3), (3, .dfr), (4, .dead), (5, .row .byte 5)] (fun r => ((), (((), ((), ())), (((), ()), ((r.1, ()), ((), ((), (r.2, ())))))))) (fun y => (y.2.2.2.1.1, y.2.2.2.2.2.2.1)) (fun _ => rfl)
def F_base64_Encode_r0_hp : List (Nat × BPt) := [(0, .loop .ready none 30 31 [(4, .ptr 1 0), (5, .ptr 2 0)] [13] 0 3), (1, .cells [.own 4] 22), (2, .cells [.h (.int .i64)] 3), (3, .dfr), (4, .row .byte 5)]
def F_base64_Encode_r0_args : List Pt := [.agg [.h .byte, .h .byte, .h .byte, .h .byte]]
def F_base64_Encode_r0_ent (r : UInt8 → UInt8 → UInt8 → UInt8 → Int → (List UInt8) → Option (Int × (List UInt8))) : Ent := { key := .yld 0, args := F_base64_Encode_r0_args, hp := F_base64_Encode_r0_hp, R := (Int × (List UInt8)), F := fun d d' => r d.1.1 d.1.2.1 d.1.2.2.1 d.1.2.2.2.1 d'.2.2.1.1 d'.2.2.2.2.1, out := F_base64_Encode_r0_out }
noncomputable def F_base64_Encode_r0_cx : Cx := { P := Tryd.prog, tb := ⟨[], etys, false⟩, fn := Tryd.f30, f := 30, ids := idsB F_base64_Encode_r0_hp, rd := some 0, tags := [([0, 1, 0, 1, 1, 1, 1], 0)] }
theorem F_base64_Encode_r0_cxok : (F_base64_Encode_r0_cx).Ok (bodyOf Tryd.f30) := ⟨ents0, Tryd_mixed, Tryd.func30, (tags1 rfl tags0)⟩
theorem F_base64_Encode_r0_ok : (F_base64_Encode_r0_ent (F_base64_Encode_r0)).Sound Tryd.prog :=
  Ent.sound_yld (cx := F_base64_Encode_r0_cx) (p := [0, 1, 0, 1, 1, 1, 1]) (labs := []) (F_base64_Encode_r0_cxok) rfl rfl rfl rfl (by kernel_rfl) (fun _ => labs0) (fun d d' => by kernel_rfl)
/- posthouse/base64.groups$1 -/
def F_base64_groups_1_out : RS ((List UInt8) × Int × (List UInt8)) := .one (α := (List UInt8) × Int × (List UInt8)) (.tup []) [(0, .loop .ready none 30 31 [(4, .ptr 2 0), (5, .ptr 3 0)] [13] 0 4), (1, .cells [.h (.list .byte)] 22), (2, .cells [.own 6] 22), (3, .cells [.h (.int .i64)] 3), (4, .dfr), (5, .dead), (6, .row .byte 5)] (fun r => ((), (((), ((), ())), ((r.1, ()), (((), ()), ((r.2.1, ()), ((), ((), (r.2.2, ()))))))))) (fun y => (y.2.2.1.1, y.2.2.2.2.1.1, y.2.2.2.2.2.2.2.1)) (fun _ => rfl)
def F_base64_groups_1_hp : List (Nat × BPt) := [(0, .loop .ready none 30 31 [(4, .ptr 2 0), (5, .ptr 3 0)] [13] 0 4), (1, .cells [.h (.list .byte)] 22), (2, .cells [.own 5] 22), (3, .cells [.h (.int .i64)] 3), (4, .dfr), (5, .row .byte 5)]
def F_base64_groups_1_args : List Pt := [.yld 0, .ptr 1 0]
def F_base64_groups_1_ent (r : (List UInt8) → Int → (List UInt8) → Option ((List UInt8) × Int × (List UInt8))) : Ent := { key := .fn 51, args := F_base64_groups_1_args, hp := F_base64_groups_1_hp, R := ((List UInt8) × Int × (List UInt8)), F := fun _ d' => r d'.2.1.1 d'.2.2.2.1.1 d'.2.2.2.2.2.1, out := F_base64_groups_1_out }
noncomputable def F_base64_groups_1_cx (fu : Nat) : Cx := { P := Tryd.prog, tb := ⟨[F_base64_Encode_r0_ent F_base64_Encode_r0], etys, false⟩, fn := Tryd.f51, f := 51, ids := idsB F_base64_groups_1_hp, rd := none, tags := [] }
theorem F_base64_groups_1_cxok (fu : Nat) : (F_base64_groups_1_cx fu).Ok (bodyOf Tryd.f51) := ⟨(ents1 F_base64_Encode_r0_ok ents0), Tryd_mixed, Tryd.func51, tags0⟩
def F_base64_groups_1_l3 (r : Int → Int → (List UInt8) → Int → (List UInt8) → Option ((List UInt8) × Int × (List UInt8))) : Lab ((List UInt8) × Int × (List UInt8)) := ⟨[(0, [1, 1, 1, 0, 0, 1, 0, 1, 1, 0, 1, 0, 0]), (2, [0, 1, 0, 1, 1, 0, 1, 0, 0]), (1, [1, 0, 1, 1, 0, 1, 0, 0]), (0, [1, 1, 1, 0, 1, 0, 0]), (1, [1, 0, 0]), (2, [0]), (1, [])], ⟨55, [(0, .yld 0), (1, .ptr 1 0), (3, .h (.int .i64)), (4, .h (.int .i64)), (14, .c (.int .i64 2))], [(0, .loop .ready none 30 31 [(4, .ptr 2 0), (5, .ptr 3 0)] [13] 0 4), (1, .cells [.h (.list .byte)] 22), (2, .cells [.own 16] 22), (3, .cells [.h (.int .i64)] 3), (4, .dfr), (5, .dead), (16, .row .byte 5)], 64, []⟩, fun d => r d.1.2.2.1 d.1.2.2.2.1 d.2.2.1.1 d.2.2.2.2.1.1 d.2.2.2.2.2.2.2.1⟩
def F_base64_groups_1_l2 (r : Int → Int → (List UInt8) → Int → (List UInt8) → Option ((List UInt8) × Int × (List UInt8))) : Lab ((List UInt8) × Int × (List UInt8)) := ⟨[(0, [1, 1, 1, 0, 0, 1, 0, 1, 1, 0, 1, 0, 0]), (2, [0, 1, 0, 1, 1, 0, 1, 0, 0]), (1, [1, 0, 1, 1, 0, 1, 0, 0]), (0, [1, 1, 1, 0, 1, 0, 0]), (1, [1, 0, 0]), (2, [0]), (1, [])], ⟨55, [(0, .yld 0), (1, .ptr 1 0), (3, .h (.int .i64)), (4, .h (.int .i64)), (14, .c (.int .i64 1))], [(0, .loop .ready none 30 31 [(4, .ptr 2 0), (5, .ptr 3 0)] [13] 0 4), (1, .cells [.h (.list .byte)] 22), (2, .cells [.own 16] 22), (3, .cells [.h (.int .i64)] 3), (4, .dfr), (5, .dead), (16, .row .byte 5)], 64, []⟩, fun d => r d.1.2.2.1 d.1.2.2.2.1 d.2.2.1.1 d.2.2.2.2.1.1 d.2.2.2.2.2.2.2.1⟩
def F_base64_groups_1_l1 (r : Int → Int → (List UInt8) → Int → (List UInt8) → Option ((List UInt8) × Int × (List UInt8))) : Lab ((List UInt8) × Int × (List UInt8)) := ⟨[(0, [1, 1, 1, 0, 0, 1, 0, 1, 1, 0, 1, 0, 0]), (2, [0, 1, 0, 1, 1, 0, 1, 0, 0]), (1, [1, 0, 1, 1, 0, 1, 0, 0]), (0, [1, 1, 1, 0, 1, 0, 0]), (1, [1, 0, 0]), (2, [0]), (1, [])], ⟨55, [(0, .yld 0), (1, .ptr 1 0), (3, .h (.int .i64)), (4, .h (.int .i64)), (14, .c (.int .i64 0))], [(0, .loop .ready none 30 31 [(4, .ptr 2 0), (5, .ptr 3 0)] [13] 0 4), (1, .cells [.h (.list .byte)] 22), (2, .cells [.own 16] 22), (3, .cells [.h (.int .i64)] 3), (4, .dfr), (5, .dead), (16, .row .byte 5)], 64, []⟩, fun d => r d.1.2.2.1 d.1.2.2.2.1 d.2.2.1.1 d.2.2.2.2.1.1 d.2.2.2.2.2.2.2.1⟩
def F_base64_groups_1_l0 (r : (List UInt8) → Int → (List UInt8) → Option ((List UInt8) × Int × (List UInt8))) : Lab ((List UInt8) × Int × (List UInt8)) := ⟨[(0, [0, 0, 0, 0]), (0, [1, 0, 0, 0]), (0, [1, 0, 0]), (2, [0]), (1, [])], ⟨55, [(0, .yld 0), (1, .ptr 1 0)], [(0, .loop .ready none 30 31 [(4, .ptr 2 0), (5, .ptr 3 0)] [13] 0 4), (1, .cells [.h (.list .byte)] 22), (2, .cells [.own 16] 22), (3, .cells [.h (.int .i64)] 3), (4, .dfr), (5, .dead), (16, .row .byte 5)], 64, []⟩, fun d => r d.2.2.1.1 d.2.2.2.2.1.1 d.2.2.2.2.2.2.2.1⟩
theorem F_base64_groups_1_p3_ok (fu : Nat) (d' : bden F_base64_groups_1_hp) (r0 : (List UInt8) → Int → (List UInt8) → Option ((List UInt8) × Int × (List UInt8))) (h0 : LabOk (F_base64_groups_1_cx fu) (bput F_base64_groups_1_hp d') F_base64_groups_1_out (bodyOf Tryd.f51) (F_base64_groups_1_l0 r0)) : LabOk (F_base64_groups_1_cx fu) (bput F_base64_groups_1_hp d') F_base64_groups_1_out (bodyOf Tryd.f51) (F_base64_groups_1_l3 (F_base64_groups_1_p3 fu r0)) :=
  LabOk.of_run (labs := [F_base64_groups_1_l0 (r0)]) (F_base64_groups_1_cxok fu) (fun _ _ h => idsB_look h) (labs1 h0 labs0) (fun d => by kernel_rfl)
theorem F_base64_groups_1_p2_ok (fu : Nat) (d' : bden F_base64_groups_1_hp) (r0 : (List UInt8) → Int → (List UInt8) → Option ((List UInt8) × Int × (List UInt8))) (h0 : LabOk (F_base64_groups_1_cx fu) (bput F_base64_groups_1_hp d') F_base64_groups_1_out (bodyOf Tryd.f51) (F_base64_groups_1_l0 r0)) : LabOk (F_base64_groups_1_cx fu) (bput F_base64_groups_1_hp d') F_base64_groups_1_out (bodyOf Tryd.f51) (F_base64_groups_1_l2 (F_base64_groups_1_p2 fu r0)) :=
  LabOk.of_run (labs := [F_base64_groups_1_l3 (F_base64_groups_1_p3 fu r0)]) (F_base64_groups_1_cxok fu) (fun _ _ h => idsB_look h) (labs1 (F_base64_groups_1_p3_ok fu d' r0 h0) labs0) (fun d => by kernel_rfl)
theorem F_base64_groups_1_p1_ok (fu : Nat) (d' : bden F_base64_groups_1_hp) (r0 : (List UInt8) → Int → (List UInt8) → Option ((List UInt8) × Int × (List UInt8))) (h0 : LabOk (F_base64_groups_1_cx fu) (bput F_base64_groups_1_hp d') F_base64_groups_1_out (bodyOf Tryd.f51) (F_base64_groups_1_l0 r0)) : LabOk (F_base64_groups_1_cx fu) (bput F_base64_groups_1_hp d') F_base64_groups_1_out (bodyOf Tryd.f51) (F_base64_groups_1_l1 (F_base64_groups_1_p1 fu r0)) :=
  LabOk.of_run (labs := [F_base64_groups_1_l2 (F_base64_groups_1_p2 fu r0)]) (F_base64_groups_1_cxok fu) (fun _ _ h => idsB_look h) (labs1 (F_base64_groups_1_p2_ok fu d' r0 h0) labs0) (fun d => by kernel_rfl)
theorem F_base64_groups_1_b0_ok (fu : Nat) (d' : bden F_base64_groups_1_hp) (r0 : (List UInt8) → Int → (List UInt8) → Option ((List UInt8) × Int × (List UInt8))) (h0 : LabOk (F_base64_groups_1_cx fu) (bput F_base64_groups_1_hp d') F_base64_groups_1_out (bodyOf Tryd.f51) (F_base64_groups_1_l0 r0)) : LabOk (F_base64_groups_1_cx fu) (bput F_base64_groups_1_hp d') F_base64_groups_1_out (bodyOf Tryd.f51) (F_base64_groups_1_l0 (F_base64_groups_1_b0 fu r0)) :=
  LabOk.of_run (labs := [F_base64_groups_1_l1 (F_base64_groups_1_p1 fu r0)]) (F_base64_groups_1_cxok fu) (fun _ _ h => idsB_look h) (labs1 (F_base64_groups_1_p1_ok fu d' r0 h0) labs0) (fun d => by kernel_rfl)
theorem F_base64_groups_1_p0_ok (fu : Nat) (d' : bden F_base64_groups_1_hp) : ∀ n, LabOk (F_base64_groups_1_cx fu) (bput F_base64_groups_1_hp d') F_base64_groups_1_out (bodyOf Tryd.f51) (F_base64_groups_1_l0 (F_base64_groups_1_p0 fu n))
  | 0 => fun _ _ h => by cases h
  | n + 1 => F_base64_groups_1_b0_ok fu d' (F_base64_groups_1_p0 fu n) (F_base64_groups_1_p0_ok fu d' n)
theorem F_base64_groups_1_ok (fu : Nat) : (F_base64_groups_1_ent (F_base64_groups_1 fu)).Sound Tryd.prog :=
  Ent.sound_fn (cx := F_base64_groups_1_cx fu) (labs := [F_base64_groups_1_l0 (F_base64_groups_1_p0 fu fu)]) (F_base64_groups_1_cxok fu) rfl rfl rfl rfl Tryd.call51 (by kernel_rfl) (fun d' => (labs1 (F_base64_groups_1_p0_ok fu d' fu) labs0)) (fun d d' => by kernel_rfl)
/- posthouse/base64.Encode -/
def F_base64_Encode_out : RS ((Int × Int) × (List UInt8)) := .one (α := (Int × Int) × (List UInt8)) (.tup [.own 0, .h (.prod (.int .i64) (.int .i64))]) [(0, .row .byte 5)] (fun r => (((), (r.1, ())), (r.2, ()))) (fun y => (y.1.2.1, y.2.1)) (fun _ => rfl)
def F_base64_Encode_hp : List (Nat × BPt) := []
def F_base64_Encode_args : List Pt := [.h (.list .byte)]
def F_base64_Encode_ent (r : (List UInt8) → Option ((Int × Int) × (List UInt8))) : Ent := { key := .fn 30, args := F_base64_Encode_args, hp := F_base64_Encode_hp, R := ((Int × Int) × (List UInt8)), F := fun d _ => r d.1, out := F_base64_Encode_out }
noncomputable def F_base64_Encode_cx (fu : Nat) : Cx := { P := Tryd.prog, tb := ⟨[F_basic_Fault_ent F_basic_Fault, F_base64_groups_ent F_base64_groups, F_base64_groups_1_ent (F_base64_groups_1 fu), F_basic_None_ent F_basic_None], etys, false⟩, fn := Tryd.f30, f := 30, ids := idsB F_base64_Encode_hp, rd := none, tags := [([0, 1, 0, 1, 1, 1, 1], 0)] }
theorem F_base64_Encode_cxok (fu : Nat) : (F_base64_Encode_cx fu).Ok (bodyOf Tryd.f30) := ⟨(ents1 F_basic_Fault_ok (ents1 F_base64_groups_ok (ents1 (F_base64_groups_1_ok fu) (ents1 F_basic_None_ok ents0)))), Tryd_mixed, Tryd.func30, (tags1 rfl tags0)⟩
theorem F_base64_Encode_ok (fu : Nat) : (F_base64_Encode_ent (F_base64_Encode fu)).Sound Tryd.prog :=
  Ent.sound_fn (cx := F_base64_Encode_cx fu) (labs := []) (F_base64_Encode_cxok fu) rfl rfl rfl rfl Tryd.call30 (by kernel_rfl) (fun _ => labs0) (fun d d' => by kernel_rfl)
/- posthouse/quoted.line -/
def F_quoted_line_out : RS Bool := .one (α := Bool) (.h .bool) [] (fun r => (r, ())) (fun y => y.1) (fun _ => rfl)
def F_quoted_line_hp : List (Nat × BPt) := []
def F_quoted_line_args : List Pt := [.h (.list .byte)]
def F_quoted_line_ent (r : (List UInt8) → Option Bool) : Ent := { key := .fn 39, args := F_quoted_line_args, hp := F_quoted_line_hp, R := Bool, F := fun d _ => r d.1, out := F_quoted_line_out }
noncomputable def F_quoted_line_cx : Cx := { P := Tryd.prog, tb := ⟨[], etys, false⟩, fn := Tryd.f39, f := 39, ids := idsB F_quoted_line_hp, rd := none, tags := [] }
theorem F_quoted_line_cxok : (F_quoted_line_cx).Ok (bodyOf Tryd.f39) := ⟨ents0, Tryd_mixed, Tryd.func39, tags0⟩
theorem F_quoted_line_ok : (F_quoted_line_ent (F_quoted_line)).Sound Tryd.prog :=
  Ent.sound_fn (cx := F_quoted_line_cx) (labs := []) (F_quoted_line_cxok) rfl rfl rfl rfl Tryd.call39 (by kernel_rfl) (fun _ => labs0) (fun d d' => by kernel_rfl)
/- posthouse/basic.Blank -/
def F_basic_Blank_out : RS Bool := .one (α := Bool) (.h .bool) [] (fun r => (r, ())) (fun y => y.1) (fun _ => rfl)
def F_basic_Blank_hp : List (Nat × BPt) := []
def F_basic_Blank_args : List Pt := [.h .byte]
def F_basic_Blank_ent (r : UInt8 → Option Bool) : Ent := { key := .fn 49, args := F_basic_Blank_args, hp := F_basic_Blank_hp, R := Bool, F := fun d _ => r d.1, out := F_basic_Blank_out }
noncomputable def F_basic_Blank_cx : Cx := { P := Tryd.prog, tb := ⟨[], etys, false⟩, fn := Tryd.f49, f := 49, ids := idsB F_basic_Blank_hp, rd := none, tags := [] }
theorem F_basic_Blank_cxok : (F_basic_Blank_cx).Ok (bodyOf Tryd.f49) := ⟨ents0, Tryd_mixed, Tryd.func49, tags0⟩
theorem F_basic_Blank_ok : (F_basic_Blank_ent (F_basic_Blank)).Sound Tryd.prog :=
  Ent.sound_fn (cx := F_basic_Blank_cx) (labs := []) (F_basic_Blank_cxok) rfl rfl rfl rfl Tryd.call49 (by kernel_rfl) (fun _ => labs0) (fun d d' => by kernel_rfl)
/- posthouse/basic.Digit -/
def F_basic_Digit_out : RS UInt8 := .one (α := UInt8) (.h .byte) [] (fun r => (r, ())) (fun y => y.1) (fun _ => rfl)
def F_basic_Digit_hp : List (Nat × BPt) := []
def F_basic_Digit_args : List Pt := [.h .byte]
def F_basic_Digit_ent (r : UInt8 → Option UInt8) : Ent := { key := .fn 50, args := F_basic_Digit_args, hp := F_basic_Digit_hp, R := UInt8, F := fun d _ => r d.1, out := F_basic_Digit_out }
noncomputable def F_basic_Digit_cx : Cx := { P := Tryd.prog, tb := ⟨[], etys, false⟩, fn := Tryd.f50, f := 50, ids := idsB F_basic_Digit_hp, rd := none, tags := [] }
theorem F_basic_Digit_cxok : (F_basic_Digit_cx).Ok (bodyOf Tryd.f50) := ⟨ents0, Tryd_mixed, Tryd.func50, tags0⟩
theorem F_basic_Digit_ok : (F_basic_Digit_ent (F_basic_Digit)).Sound Tryd.prog :=
  Ent.sound_fn (cx := F_basic_Digit_cx) (labs := []) (F_basic_Digit_cxok) rfl rfl rfl rfl Tryd.call50 (by kernel_rfl) (fun _ => labs0) (fun d d' => by kernel_rfl)
/- posthouse/quoted.sign -/
def F_quoted_sign_out : RS ((List UInt8)) := .one (α := (List UInt8)) (.own 0) [(0, .row .byte 5)] (fun r => ((), (r, ()))) (fun y => y.2.1) (fun _ => rfl)
def F_quoted_sign_hp : List (Nat × BPt) := []
def F_quoted_sign_args : List Pt := [.h .byte, .h (.list .byte)]
def F_quoted_sign_ent (r : UInt8 → (List UInt8) → Option ((List UInt8))) : Ent := { key := .fn 40, args := F_quoted_sign_args, hp := F_quoted_sign_hp, R := ((List UInt8)), F := fun d _ => r d.1 d.2.1, out := F_quoted_sign_out }
noncomputable def F_quoted_sign_cx : Cx := { P := Tryd.prog, tb := ⟨[F_quoted_line_ent F_quoted_line, F_basic_Blank_ent F_basic_Blank, F_basic_Digit_ent F_basic_Digit], etys, false⟩, fn := Tryd.f40, f := 40, ids := idsB F_quoted_sign_hp, rd := none, tags := [] }
theorem F_quoted_sign_cxok : (F_quoted_sign_cx).Ok (bodyOf Tryd.f40) := ⟨(ents1 F_quoted_line_ok (ents1 F_basic_Blank_ok (ents1 F_basic_Digit_ok ents0))), Tryd_mixed, Tryd.func40, tags0⟩
def F_quoted_sign_l0 (r : UInt8 → Bool → Option ((List UInt8))) : Lab ((List UInt8)) := ⟨[(0, [0, 0, 1, 1]), (0, [1, 0, 1, 1]), (0, [1, 1, 1])], ⟨39, [(0, .h .byte), (5, .h .bool)], [], 64, []⟩, fun d => r d.1.1 d.1.2.1⟩
theorem F_quoted_sign_p0_ok (d' : bden F_quoted_sign_hp) : LabOk (F_quoted_sign_cx) (bput F_quoted_sign_hp d') F_quoted_sign_out (bodyOf Tryd.f40) (F_quoted_sign_l0 (F_quoted_sign_p0)) :=
  LabOk.of_run (labs := []) (F_quoted_sign_cxok) (fun _ _ h => idsB_look h) labs0 (fun d => by kernel_rfl)
theorem F_quoted_sign_ok : (F_quoted_sign_ent (F_quoted_sign)).Sound Tryd.prog :=
  Ent.sound_fn (cx := F_quoted_sign_cx) (labs := [F_quoted_sign_l0 (F_quoted_sign_p0)]) (F_quoted_sign_cxok) rfl rfl rfl rfl Tryd.call40 (by kernel_rfl) (fun d' => (labs1 (F_quoted_sign_p0_ok d') labs0)) (fun d d' => by kernel_rfl)
/- posthouse/quoted.Encode -/
def F_quoted_Encode_out : RS ((Int × Int) × (List UInt8)) := .one (α := (Int × Int) × (List UInt8)) (.tup [.own 0, .h (.prod (.int .i64) (.int .i64))]) [(0, .row .byte 5)] (fun r => (((), (r.1, ())), (r.2, ()))) (fun y => (y.1.2.1, y.2.1)) (fun _ => rfl)
def F_quoted_Encode_hp : List (Nat × BPt) := []
def F_quoted_Encode_args : List Pt := [.h (.list .byte)]
def F_quoted_Encode_ent (r : (List UInt8) → Option ((Int × Int) × (List UInt8))) : Ent := { key := .fn 29, args := F_quoted_Encode_args, hp := F_quoted_Encode_hp, R := ((Int × Int) × (List UInt8)), F := fun d _ => r d.1, out := F_quoted_Encode_out }
noncomputable def F_quoted_Encode_cx (fu : Nat) : Cx := { P := Tryd.prog, tb := ⟨[F_basic_Fault_ent F_basic_Fault, F_quoted_line_ent F_quoted_line, F_quoted_sign_ent F_quoted_sign, F_basic_None_ent F_basic_None], etys, false⟩, fn := Tryd.f29, f := 29, ids := idsB F_quoted_Encode_hp, rd := none, tags := [] }
theorem F_quoted_Encode_cxok (fu : Nat) : (F_quoted_Encode_cx fu).Ok (bodyOf Tryd.f29) := ⟨(ents1 F_basic_Fault_ok (ents1 F_quoted_line_ok (ents1 F_quoted_sign_ok (ents1 F_basic_None_ok ents0)))), Tryd_mixed, Tryd.func29, tags0⟩
def F_quoted_Encode_l3 (r : (List UInt8) → Int → Int → (Int × Int) → (List UInt8) → (List UInt8) → Option ((Int × Int) × (List UInt8))) : Lab ((Int × Int) × (List UInt8)) := ⟨[(0, [0, 1, 1, 1, 1, 1, 1, 0, 0, 1, 0, 0, 1, 0, 1, 1, 1, 1]), (0, [1, 1, 1, 1, 1, 1, 1, 0, 0, 1, 0, 0, 1, 0, 1, 1, 1, 1]), (1, [0, 1, 0, 0, 1, 0, 1, 1, 1, 1]), (0, [1, 1, 0, 0, 1, 0, 1, 1, 1, 1]), (2, [0, 1, 0, 1, 1, 1, 1]), (1, [1, 0, 1, 1, 1, 1]), (0, [1, 1, 1, 1, 1])], ⟨67, [(0, .h (.list .byte)), (3, .ptr 16 0), (4, .own 17), (5, .h (.int .i64)), (6, .h (.int .i64)), (8, .own 18)], [(16, .dat (.prod (.int .i64) (.int .i64)) 25), (17, .row .byte 5), (18, .row .byte 5)], 64, []⟩, fun d => r d.1.1 d.1.2.2.2.1 d.1.2.2.2.2.1 d.2.1 d.2.2.1 d.2.2.2.1⟩
def F_quoted_Encode_l2 (r : (List UInt8) → Int → Int → Int → (Int × Int) → (List UInt8) → (List UInt8) → Option ((Int × Int) × (List UInt8))) : Lab ((Int × Int) × (List UInt8)) := ⟨[(0, [0, 0, 1, 1, 1, 1, 1, 0, 0, 1, 0, 0, 1, 0, 1, 1, 1, 1]), (0, [1, 0, 1, 1, 1, 1, 1, 0, 0, 1, 0, 0, 1, 0, 1, 1, 1, 1]), (0, [1, 1, 1, 1, 1, 1, 0, 0, 1, 0, 0, 1, 0, 1, 1, 1, 1]), (1, [0, 1, 0, 0, 1, 0, 1, 1, 1, 1]), (0, [1, 1, 0, 0, 1, 0, 1, 1, 1, 1]), (2, [0, 1, 0, 1, 1, 1, 1]), (1, [1, 0, 1, 1, 1, 1]), (0, [1, 1, 1, 1, 1])], ⟨67, [(0, .h (.list .byte)), (3, .ptr 16 0), (4, .own 17), (5, .h (.int .i64)), (6, .h (.int .i64)), (8, .own 18), (9, .h (.int .i64))], [(16, .dat (.prod (.int .i64) (.int .i64)) 25), (17, .row .byte 5), (18, .row .byte 5)], 64, []⟩, fun d => r d.1.1 d.1.2.2.2.1 d.1.2.2.2.2.1 d.1.2.2.2.2.2.2.1 d.2.1 d.2.2.1 d.2.2.2.1⟩
def F_quoted_Encode_l1 (r : (List UInt8) → Int → Int → Bool → (Int × Int) → (List UInt8) → (List UInt8) → Option ((Int × Int) × (List UInt8))) : Lab ((Int × Int) × (List UInt8)) := ⟨[(0, [1, 0, 1, 1, 1, 1, 0, 0, 1, 0, 0, 1, 0, 1, 1, 1, 1]), (0, [1, 1, 1, 1, 1, 0, 0, 1, 0, 0, 1, 0, 1, 1, 1, 1]), (1, [0, 1, 0, 0, 1, 0, 1, 1, 1, 1]), (0, [1, 1, 0, 0, 1, 0, 1, 1, 1, 1]), (2, [0, 1, 0, 1, 1, 1, 1]), (1, [1, 0, 1, 1, 1, 1]), (0, [1, 1, 1, 1, 1])], ⟨67, [(0, .h (.list .byte)), (3, .ptr 16 0), (4, .own 18), (5, .h (.int .i64)), (6, .h (.int .i64)), (8, .own 17), (9, .c (.int .i64 76)), (46, .h .bool)], [(16, .dat (.prod (.int .i64) (.int .i64)) 25), (17, .row .byte 5), (18, .row .byte 5)], 64, []⟩, fun d => r d.1.1 d.1.2.2.2.1 d.1.2.2.2.2.1 d.1.2.2.2.2.2.2.2.1 d.2.1 d.2.2.1 d.2.2.2.1⟩
def F_quoted_Encode_l0 (r : (List UInt8) → Int → Int → (Int × Int) → (List UInt8) → Option ((Int × Int) × (List UInt8))) : Lab ((Int × Int) × (List UInt8)) := ⟨[(0, [0, 0, 0, 0, 1, 0, 1, 1, 1, 1]), (0, [1, 0, 0, 0, 1, 0, 1, 1, 1, 1]), (0, [1, 0, 0, 1, 0, 1, 1, 1, 1]), (2, [0, 1, 0, 1, 1, 1, 1]), (1, [1, 0, 1, 1, 1, 1]), (0, [1, 1, 1, 1, 1])], ⟨67, [(0, .h (.list .byte)), (3, .ptr 16 0), (4, .own 17), (5, .h (.int .i64)), (6, .h (.int .i64))], [(16, .dat (.prod (.int .i64) (.int .i64)) 25), (17, .row .byte 5)], 64, []⟩, fun d => r d.1.1 d.1.2.2.2.1 d.1.2.2.2.2.1 d.2.1 d.2.2.1⟩
theorem F_quoted_Encode_p3_ok (fu : Nat) (d' : bden F_quoted_Encode_hp) (r0 : (List UInt8) → Int → Int → (Int × Int) → (List UInt8) → Option ((Int × Int) × (List UInt8))) (h0 : LabOk (F_quoted_Encode_cx fu) (bput F_quoted_Encode_hp d') F_quoted_Encode_out (bodyOf Tryd.f29) (F_quoted_Encode_l0 r0)) : LabOk (F_quoted_Encode_cx fu) (bput F_quoted_Encode_hp d') F_quoted_Encode_out (bodyOf Tryd.f29) (F_quoted_Encode_l3 (F_quoted_Encode_p3 fu r0)) :=
  LabOk.of_run (labs := [F_quoted_Encode_l0 (r0)]) (F_quoted_Encode_cxok fu) (fun _ _ h => idsB_look h) (labs1 h0 labs0) (fun d => by kernel_rfl)
theorem F_quoted_Encode_p2_ok (fu : Nat) (d' : bden F_quoted_Encode_hp) (r0 : (List UInt8) → Int → Int → (Int × Int) → (List UInt8) → Option ((Int × Int) × (List UInt8))) (h0 : LabOk (F_quoted_Encode_cx fu) (bput F_quoted_Encode_hp d') F_quoted_Encode_out (bodyOf Tryd.f29) (F_quoted_Encode_l0 r0)) : LabOk (F_quoted_Encode_cx fu) (bput F_quoted_Encode_hp d') F_quoted_Encode_out (bodyOf Tryd.f29) (F_quoted_Encode_l2 (F_quoted_Encode_p2 fu r0)) :=
  LabOk.of_run (labs := [F_quoted_Encode_l3 (F_quoted_Encode_p3 fu r0)]) (F_quoted_Encode_cxok fu) (fun _ _ h => idsB_look h) (labs1 (F_quoted_Encode_p3_ok fu d' r0 h0) labs0) (fun d => by kernel_rfl)
theorem F_quoted_Encode_p1_ok (fu : Nat) (d' : bden F_quoted_Encode_hp) (r0 : (List UInt8) → Int → Int → (Int × Int) → (List UInt8) → Option ((Int × Int) × (List UInt8))) (h0 : LabOk (F_quoted_Encode_cx fu) (bput F_quoted_Encode_hp d') F_quoted_Encode_out (bodyOf Tryd.f29) (F_quoted_Encode_l0 r0)) : LabOk (F_quoted_Encode_cx fu) (bput F_quoted_Encode_hp d') F_quoted_Encode_out (bodyOf Tryd.f29) (F_quoted_Encode_l1 (F_quoted_Encode_p1 fu r0)) :=
  LabOk.of_run (labs := [F_quoted_Encode_l2 (F_quoted_Encode_p2 fu r0)]) (F_quoted_Encode_cxok fu) (fun _ _ h => idsB_look h) (labs1 (F_quoted_Encode_p2_ok fu d' r0 h0) labs0) (fun d => by kernel_rfl)
theorem F_quoted_Encode_b0_ok (fu : Nat) (d' : bden F_quoted_Encode_hp) (r0 : (List UInt8) → Int → Int → (Int × Int) → (List UInt8) → Option ((Int × Int) × (List UInt8))) (h0 : LabOk (F_quoted_Encode_cx fu) (bput F_quoted_Encode_hp d') F_quoted_Encode_out (bodyOf Tryd.f29) (F_quoted_Encode_l0 r0)) : LabOk (F_quoted_Encode_cx fu) (bput F_quoted_Encode_hp d') F_quoted_Encode_out (bodyOf Tryd.f29) (F_quoted_Encode_l0 (F_quoted_Encode_b0 fu r0)) :=
  LabOk.of_run (labs := [F_quoted_Encode_l0 (r0), F_quoted_Encode_l1 (F_quoted_Encode_p1 fu r0)]) (F_quoted_Encode_cxok fu) (fun _ _ h => idsB_look h) (labs1 h0 (labs1 (F_quoted_Encode_p1_ok fu d' r0 h0) labs0)) (fun d => by kernel_rfl)
theorem F_quoted_Encode_p0_ok (fu : Nat) (d' : bden F_quoted_Encode_hp) : ∀ n, LabOk (F_quoted_Encode_cx fu) (bput F_quoted_Encode_hp d') F_quoted_Encode_out (bodyOf Tryd.f29) (F_quoted_Encode_l0 (F_quoted_Encode_p0 fu n))
  | 0 => fun _ _ h => by cases h
  | n + 1 => F_quoted_Encode_b0_ok fu d' (F_quoted_Encode_p0 fu n) (F_quoted_Encode_p0_ok fu d' n)
theorem F_quoted_Encode_ok (fu : Nat) : (F_quoted_Encode_ent (F_quoted_Encode fu)).Sound Tryd.prog :=
  Ent.sound_fn (cx := F_quoted_Encode_cx fu) (labs := [F_quoted_Encode_l0 (F_quoted_Encode_p0 fu fu)]) (F_quoted_Encode_cxok fu) rfl rfl rfl rfl Tryd.call29 (by kernel_rfl) (fun d' => (labs1 (F_quoted_Encode_p0_ok fu d' fu) labs0)) (fun d d' => by kernel_rfl)
/- posthouse/transfer.Encode -/
def F_transfer_Encode_out : RS ((Int × Int) × (List UInt8)) := .one (α := (Int × Int) × (List UInt8)) (.tup [.own 0, .h (.prod (.int .i64) (.int .i64))]) [(0, .row .byte 5)] (fun r => (((), (r.1, ())), (r.2, ()))) (fun y => (y.1.2.1, y.2.1)) (fun _ => rfl)
def F_transfer_Encode_hp : List (Nat × BPt) := []
def F_transfer_Encode_args : List Pt := [.h (.list .byte), .h .str]
def F_transfer_Encode_ent (r : (List UInt8) → (List UInt8) → Option ((Int × Int) × (List UInt8))) : Ent := { key := .fn 9, args := F_transfer_Encode_args, hp := F_transfer_Encode_hp, R := ((Int × Int) × (List UInt8)), F := fun d _ => r d.1 d.2.1, out := F_transfer_Encode_out }
noncomputable def F_transfer_Encode_cx (fu : Nat) : Cx := { P := Tryd.prog, tb := ⟨[F_transfer_valid_ent (F_transfer_valid fu), F_basic_Failed_ent F_basic_Failed, F_transfer_plain_1_ent (F_transfer_plain_1 fu), F_base64_Encode_ent (F_base64_Encode fu), F_quoted_Encode_ent (F_quoted_Encode fu)], etys, false⟩, fn := Tryd.f9, f := 9, ids := idsB F_transfer_Encode_hp, rd := none, tags := [] }
theorem F_transfer_Encode_cxok (fu : Nat) : (F_transfer_Encode_cx fu).Ok (bodyOf Tryd.f9) := ⟨(ents1 (F_transfer_valid_ok fu) (ents1 F_basic_Failed_ok (ents1 (F_transfer_plain_1_ok fu) (ents1 (F_base64_Encode_ok fu) (ents1 (F_quoted_Encode_ok fu) ents0))))), Tryd_mixed, Tryd.func9, tags0⟩
theorem F_transfer_Encode_ok (fu : Nat) : (F_transfer_Encode_ent (F_transfer_Encode fu)).Sound Tryd.prog :=
  Ent.sound_fn (cx := F_transfer_Encode_cx fu) (labs := []) (F_transfer_Encode_cxok fu) rfl rfl rfl rfl Tryd.call9 (by kernel_rfl) (fun _ => labs0) (fun d d' => by kernel_rfl)
/- bytes.IndexByte -/
def F_bytes_IndexByte_out : RS Int := .one (α := Int) (.h (.int .i64)) [] (fun r => (r, ())) (fun y => y.1) (fun _ => rfl)
def F_bytes_IndexByte_hp : List (Nat × BPt) := []
def F_bytes_IndexByte_args : List Pt := [.h (.list .byte), .h .byte]
def F_bytes_IndexByte_ent (r : (List UInt8) → UInt8 → Option Int) : Ent := { key := .fn 54, args := F_bytes_IndexByte_args, hp := F_bytes_IndexByte_hp, R := Int, F := fun d _ => r d.1 d.2.1, out := F_bytes_IndexByte_out }
noncomputable def F_bytes_IndexByte_cx : Cx := { P := Tryd.prog, tb := ⟨[F_bytealg_IndexByte_ent 60 F_bytealg_IndexByte], etys, false⟩, fn := Tryd.f54, f := 54, ids := idsB F_bytes_IndexByte_hp, rd := none, tags := [] }
theorem F_bytes_IndexByte_cxok : (F_bytes_IndexByte_cx).Ok (bodyOf Tryd.f54) := ⟨(ents1 F_bytealg_IndexByte_ok60 ents0), Tryd_mixed, Tryd.func54, tags0⟩
theorem F_bytes_IndexByte_ok : (F_bytes_IndexByte_ent (F_bytes_IndexByte)).Sound Tryd.prog :=
  Ent.sound_fn (cx := F_bytes_IndexByte_cx) (labs := []) (F_bytes_IndexByte_cxok) rfl rfl rfl rfl Tryd.call54 (by kernel_rfl) (fun _ => labs0) (fun d d' => by kernel_rfl)
/- posthouse/base64.Lenient -/
def F_base64_Lenient_out : RS ((Int × Int) × (List UInt8)) := .one (α := (Int × Int) × (List UInt8)) (.tup [.own 0, .h (.prod (.int .i64) (.int .i64))]) [(0, .row .byte 5)] (fun r => (((), (r.1, ())), (r.2, ()))) (fun y => (y.1.2.1, y.2.1)) (fun _ => rfl)
def F_base64_Lenient_hp : List (Nat × BPt) := []
def F_base64_Lenient_args : List Pt := [.h (.list .byte)]
def F_base64_Lenient_ent (r : (List UInt8) → Option ((Int × Int) × (List UInt8))) : Ent := { key := .fn 46, args := F_base64_Lenient_args, hp := F_base64_Lenient_hp, R := ((Int × Int) × (List UInt8)), F := fun d _ => r d.1, out := F_base64_Lenient_out }
noncomputable def F_base64_Lenient_cx (fu : Nat) : Cx := { P := Tryd.prog, tb := ⟨[F_basic_Fault_ent F_basic_Fault, F_basic_None_ent F_basic_None, F_bytes_IndexByte_ent F_bytes_IndexByte], etys, false⟩, fn := Tryd.f46, f := 46, ids := idsB F_base64_Lenient_hp, rd := none, tags := [] }
theorem F_base64_Lenient_cxok (fu : Nat) : (F_base64_Lenient_cx fu).Ok (bodyOf Tryd.f46) := ⟨(ents1 F_basic_Fault_ok (ents1 F_basic_None_ok (ents1 F_bytes_IndexByte_ok ents0))), Tryd_mixed, Tryd.func46, tags0⟩
def F_base64_Lenient_l0 (r : Int → Int → (List UInt8) → Int → Int → (Int × Int) → (List UInt8) → Option ((Int × Int) × (List UInt8))) : Lab ((Int × Int) × (List UInt8)) := ⟨[(0, [0, 0, 0, 1, 0, 1, 1, 1, 1]), (0, [1, 0, 0, 1, 0, 1, 1, 1, 1]), (2, [0, 1, 0, 1, 1, 1, 1]), (1, [1, 0, 1, 1, 1, 1]), (0, [1, 1, 1, 1, 1])], ⟨53, [(3, .ptr 16 0), (4, .own 17), (5, .h (.int .i64)), (6, .h (.int .i64)), (14, .h (.list .byte)), (15, .h (.int .i64)), (16, .h (.int .i64))], [(16, .dat (.prod (.int .i64) (.int .i64)) 25), (17, .row .byte 5)], 64, []⟩, fun d => r d.1.2.2.1 d.1.2.2.2.1 d.1.2.2.2.2.1 d.1.2.2.2.2.2.1 d.1.2.2.2.2.2.2.1 d.2.1 d.2.2.1⟩
theorem F_base64_Lenient_b0_ok (fu : Nat) (d' : bden F_base64_Lenient_hp) (r0 : Int → Int → (List UInt8) → Int → Int → (Int × Int) → (List UInt8) → Option ((Int × Int) × (List UInt8))) (h0 : LabOk (F_base64_Lenient_cx fu) (bput F_base64_Lenient_hp d') F_base64_Lenient_out (bodyOf Tryd.f46) (F_base64_Lenient_l0 r0)) : LabOk (F_base64_Lenient_cx fu) (bput F_base64_Lenient_hp d') F_base64_Lenient_out (bodyOf Tryd.f46) (F_base64_Lenient_l0 (F_base64_Lenient_b0 fu r0)) :=
  LabOk.of_run (labs := [F_base64_Lenient_l0 (r0)]) (F_base64_Lenient_cxok fu) (fun _ _ h => idsB_look h) (labs1 h0 labs0) (fun d => by kernel_rfl)
theorem F_base64_Lenient_p0_ok (fu : Nat) (d' : bden F_base64_Lenient_hp) : ∀ n, LabOk (F_base64_Lenient_cx fu) (bput F_base64_Lenient_hp d') F_base64_Lenient_out (bodyOf Tryd.f46) (F_base64_Lenient_l0 (F_base64_Lenient_p0 fu n))
  | 0 => fun _ _ h => by cases h
  | n + 1 => F_base64_Lenient_b0_ok fu d' (F_base64_Lenient_p0 fu n) (F_base64_Lenient_p0_ok fu d' n)
theorem F_base64_Lenient_ok (fu : Nat) : (F_base64_Lenient_ent (F_base64_Lenient fu)).Sound Tryd.prog :=
  Ent.sound_fn (cx := F_base64_Lenient_cx fu) (labs := [F_base64_Lenient_l0 (F_base64_Lenient_p0 fu fu)]) (F_base64_Lenient_cxok fu) rfl rfl rfl rfl Tryd.call46 (by kernel_rfl) (fun d' => (labs1 (F_base64_Lenient_p0_ok fu d' fu) labs0)) (fun d d' => by kernel_rfl)
/- bytes.Equal -/
def F_bytes_Equal_out : RS Bool := .one (α := Bool) (.h .bool) [] (fun r => (r, ())) (fun y => y.1) (fun _ => rfl)
def F_bytes_Equal_hp : List (Nat × BPt) := []
def F_bytes_Equal_args : List Pt := [.h (.list .byte), .h (.list .byte)]
def F_bytes_Equal_ent (r : (List UInt8) → (List UInt8) → Option Bool) : Ent := { key := .fn 65, args := F_bytes_Equal_args, hp := F_bytes_Equal_hp, R := Bool, F := fun d _ => r d.1 d.2.1, out := F_bytes_Equal_out }
noncomputable def F_bytes_Equal_cx : Cx := { P := Tryd.prog, tb := ⟨[], etys, false⟩, fn := Tryd.f65, f := 65, ids := idsB F_bytes_Equal_hp, rd := none, tags := [] }
theorem F_bytes_Equal_cxok : (F_bytes_Equal_cx).Ok (bodyOf Tryd.f65) := ⟨ents0, Tryd_mixed, Tryd.func65, tags0⟩
theorem F_bytes_Equal_ok : (F_bytes_Equal_ent (F_bytes_Equal)).Sound Tryd.prog :=
  Ent.sound_fn (cx := F_bytes_Equal_cx) (labs := []) (F_bytes_Equal_cxok) rfl rfl rfl rfl Tryd.call65 (by kernel_rfl) (fun _ => labs0) (fun d d' => by kernel_rfl)
/- bytes.HasSuffix -/
def F_bytes_HasSuffix_out : RS Bool := .one (α := Bool) (.h .bool) [] (fun r => (r, ())) (fun y => y.1) (fun _ => rfl)
def F_bytes_HasSuffix_hp : List (Nat × BPt) := []
def F_bytes_HasSuffix_args : List Pt := [.h (.list .byte), .h (.list .byte)]
def F_bytes_HasSuffix_ent (r : (List UInt8) → (List UInt8) → Option Bool) : Ent := { key := .fn 57, args := F_bytes_HasSuffix_args, hp := F_bytes_HasSuffix_hp, R := Bool, F := fun d _ => r d.1 d.2.1, out := F_bytes_HasSuffix_out }
noncomputable def F_bytes_HasSuffix_cx : Cx := { P := Tryd.prog, tb := ⟨[F_bytes_Equal_ent F_bytes_Equal], etys, false⟩, fn := Tryd.f57, f := 57, ids := idsB F_bytes_HasSuffix_hp, rd := none, tags := [] }
theorem F_bytes_HasSuffix_cxok : (F_bytes_HasSuffix_cx).Ok (bodyOf Tryd.f57) := ⟨(ents1 F_bytes_Equal_ok ents0), Tryd_mixed, Tryd.func57, tags0⟩
theorem F_bytes_HasSuffix_ok : (F_bytes_HasSuffix_ent (F_bytes_HasSuffix)).Sound Tryd.prog :=
  Ent.sound_fn (cx := F_bytes_HasSuffix_cx) (labs := []) (F_bytes_HasSuffix_cxok) rfl rfl rfl rfl Tryd.call57 (by kernel_rfl) (fun _ => labs0) (fun d d' => by kernel_rfl)
/- bytes.TrimSuffix -/
def F_bytes_TrimSuffix_out : RS ((List UInt8)) := .one (α := (List UInt8)) (.h (.list .byte)) [] (fun r => (r, ())) (fun y => y.1) (fun _ => rfl)
def F_bytes_TrimSuffix_hp : List (Nat × BPt) := []
def F_bytes_TrimSuffix_args : List Pt := [.h (.list .byte), .h (.list .byte)]
def F_bytes_TrimSuffix_ent (r : (List UInt8) → (List UInt8) → Option ((List UInt8))) : Ent := { key := .fn 55, args := F_bytes_TrimSuffix_args, hp := F_bytes_TrimSuffix_hp, R := ((List UInt8)), F := fun d _ => r d.1 d.2.1, out := F_bytes_TrimSuffix_out }
noncomputable def F_bytes_TrimSuffix_cx : Cx := { P := Tryd.prog, tb := ⟨[F_bytes_HasSuffix_ent F_bytes_HasSuffix], etys, false⟩, fn := Tryd.f55, f := 55, ids := idsB F_bytes_TrimSuffix_hp, rd := none, tags := [] }
theorem F_bytes_TrimSuffix_cxok : (F_bytes_TrimSuffix_cx).Ok (bodyOf Tryd.f55) := ⟨(ents1 F_bytes_HasSuffix_ok ents0), Tryd_mixed, Tryd.func55, tags0⟩
theorem F_bytes_TrimSuffix_ok : (F_bytes_TrimSuffix_ent (F_bytes_TrimSuffix)).Sound Tryd.prog :=
  Ent.sound_fn (cx := F_bytes_TrimSuffix_cx) (labs := []) (F_bytes_TrimSuffix_cxok) rfl rfl rfl rfl Tryd.call55 (by kernel_rfl) (fun _ => labs0) (fun d d' => by kernel_rfl)
/- bytes.trimRightByte -/
def F_bytes_trimRightByte_out : RS ((List UInt8)) := .one (α := (List UInt8)) (.h (.list .byte)) [] (fun r => (r, ())) (fun y => y.1) (fun _ => rfl)
def F_bytes_trimRightByte_hp : List (Nat × BPt) := []
def F_bytes_trimRightByte_args : List Pt := [.h (.list .byte), .h .byte]
def F_bytes_trimRightByte_ent (r : (List UInt8) → UInt8 → Option ((List UInt8))) : Ent := { key := .fn 61, args := F_bytes_trimRightByte_args, hp := F_bytes_trimRightByte_hp, R := ((List UInt8)), F := fun d _ => r d.1 d.2.1, out := F_bytes_trimRightByte_out }
noncomputable def F_bytes_trimRightByte_cx (fu : Nat) : Cx := { P := Tryd.prog, tb := ⟨[], etys, false⟩, fn := Tryd.f61, f := 61, ids := idsB F_bytes_trimRightByte_hp, rd := none, tags := [] }
theorem F_bytes_trimRightByte_cxok (fu : Nat) : (F_bytes_trimRightByte_cx fu).Ok (bodyOf Tryd.f61) := ⟨ents0, Tryd_mixed, Tryd.func61, tags0⟩
def F_bytes_trimRightByte_l0 (r : (List UInt8) → UInt8 → Option ((List UInt8))) : Lab ((List UInt8)) := ⟨[(0, [0, 0, 0, 0, 0, 1]), (0, [1, 0, 0, 0, 0, 1]), (0, [1, 0, 0, 0, 1]), (2, [0, 0, 1]), (1, [0, 1]), (0, [1, 1])], ⟨24, [(0, .h (.list .byte)), (1, .h .byte)], [], 64, []⟩, fun d => r d.1.1 d.1.2.1⟩
theorem F_bytes_trimRightByte_b0_ok (fu : Nat) (d' : bden F_bytes_trimRightByte_hp) (r0 : (List UInt8) → UInt8 → Option ((List UInt8))) (h0 : LabOk (F_bytes_trimRightByte_cx fu) (bput F_bytes_trimRightByte_hp d') F_bytes_trimRightByte_out (bodyOf Tryd.f61) (F_bytes_trimRightByte_l0 r0)) : LabOk (F_bytes_trimRightByte_cx fu) (bput F_bytes_trimRightByte_hp d') F_bytes_trimRightByte_out (bodyOf Tryd.f61) (F_bytes_trimRightByte_l0 (F_bytes_trimRightByte_b0 fu r0)) :=
  LabOk.of_run (labs := [F_bytes_trimRightByte_l0 (r0)]) (F_bytes_trimRightByte_cxok fu) (fun _ _ h => idsB_look h) (labs1 h0 labs0) (fun d => by kernel_rfl)
theorem F_bytes_trimRightByte_p0_ok (fu : Nat) (d' : bden F_bytes_trimRightByte_hp) : ∀ n, LabOk (F_bytes_trimRightByte_cx fu) (bput F_bytes_trimRightByte_hp d') F_bytes_trimRightByte_out (bodyOf Tryd.f61) (F_bytes_trimRightByte_l0 (F_bytes_trimRightByte_p0 fu n))
  | 0 => fun _ _ h => by cases h
  | n + 1 => F_bytes_trimRightByte_b0_ok fu d' (F_bytes_trimRightByte_p0 fu n) (F_bytes_trimRightByte_p0_ok fu d' n)
theorem F_bytes_trimRightByte_ok (fu : Nat) : (F_bytes_trimRightByte_ent (F_bytes_trimRightByte fu)).Sound Tryd.prog :=
  Ent.sound_fn (cx := F_bytes_trimRightByte_cx fu) (labs := [F_bytes_trimRightByte_l0 (F_bytes_trimRightByte_p0 fu fu)]) (F_bytes_trimRightByte_cxok fu) rfl rfl rfl rfl Tryd.call61 (by kernel_rfl) (fun d' => (labs1 (F_bytes_trimRightByte_p0_ok fu d' fu) labs0)) (fun d d' => by kernel_rfl)
/- bytes.makeASCIISet -/
def F_bytes_makeASCIISet_out : RS ((List Bool) × Bool) := .one (α := (List Bool) × Bool) (.tup [.arr .bool, .h .bool]) [] (fun r => ((r.1, (r.2, ())), ())) (fun y => (y.1.1, y.1.2.1)) (fun _ => rfl)
def F_bytes_makeASCIISet_hp : List (Nat × BPt) := []
def F_bytes_makeASCIISet_args : List Pt := [.h .str]
def F_bytes_makeASCIISet_ent (r : (List UInt8) → Option ((List Bool) × Bool)) : Ent := { key := .fn 62, args := F_bytes_makeASCIISet_args, hp := F_bytes_makeASCIISet_hp, R := ((List Bool) × Bool), F := fun d _ => r d.1, out := F_bytes_makeASCIISet_out }
noncomputable def F_bytes_makeASCIISet_cx (fu : Nat) : Cx := { P := Tryd.prog, tb := ⟨[], etys, false⟩, fn := Tryd.f62, f := 62, ids := idsB F_bytes_makeASCIISet_hp, rd := none, tags := [] }
theorem F_bytes_makeASCIISet_cxok (fu : Nat) : (F_bytes_makeASCIISet_cx fu).Ok (bodyOf Tryd.f62) := ⟨ents0, Tryd_mixed, Tryd.func62, tags0⟩
def F_bytes_makeASCIISet_l0 (r : (List UInt8) → Int → (List Bool) → Option ((List Bool) × Bool)) : Lab ((List Bool) × Bool) := ⟨[(0, [0, 0, 0, 0, 1, 0, 1]), (0, [1, 0, 0, 0, 1, 0, 1]), (0, [1, 0, 0, 1, 0, 1]), (2, [0, 1, 0, 1]), (1, [1, 0, 1]), (0, [1, 1])], ⟨21, [(0, .h .str), (2, .el 16 1), (4, .h (.int .i64))], [(16, .row .bool 75)], 64, []⟩, fun d => r d.1.1 d.1.2.2.1 d.2.1⟩
theorem F_bytes_makeASCIISet_b0_ok (fu : Nat) (d' : bden F_bytes_makeASCIISet_hp) (r0 : (List UInt8) → Int → (List Bool) → Option ((List Bool) × Bool)) (h0 : LabOk (F_bytes_makeASCIISet_cx fu) (bput F_bytes_makeASCIISet_hp d') F_bytes_makeASCIISet_out (bodyOf Tryd.f62) (F_bytes_makeASCIISet_l0 r0)) : LabOk (F_bytes_makeASCIISet_cx fu) (bput F_bytes_makeASCIISet_hp d') F_bytes_makeASCIISet_out (bodyOf Tryd.f62) (F_bytes_makeASCIISet_l0 (F_bytes_makeASCIISet_b0 fu r0)) :=
  LabOk.of_run (labs := [F_bytes_makeASCIISet_l0 (r0)]) (F_bytes_makeASCIISet_cxok fu) (fun _ _ h => idsB_look h) (labs1 h0 labs0) (fun d => by kernel_rfl)
theorem F_bytes_makeASCIISet_p0_ok (fu : Nat) (d' : bden F_bytes_makeASCIISet_hp) : ∀ n, LabOk (F_bytes_makeASCIISet_cx fu) (bput F_bytes_makeASCIISet_hp d') F_bytes_makeASCIISet_out (bodyOf Tryd.f62) (F_bytes_makeASCIISet_l0 (F_bytes_makeASCIISet_p0 fu n))
  | 0 => fun _ _ h => by cases h
  | n + 1 => F_bytes_makeASCIISet_b0_ok fu d' (F_bytes_makeASCIISet_p0 fu n) (F_bytes_makeASCIISet_p0_ok fu d' n)
theorem F_bytes_makeASCIISet_ok (fu : Nat) : (F_bytes_makeASCIISet_ent (F_bytes_makeASCIISet fu)).Sound Tryd.prog :=
  Ent.sound_fn (cx := F_bytes_makeASCIISet_cx fu) (labs := [F_bytes_makeASCIISet_l0 (F_bytes_makeASCIISet_p0 fu fu)]) (F_bytes_makeASCIISet_cxok fu) rfl rfl rfl rfl Tryd.call62 (by kernel_rfl) (fun d' => (labs1 (F_bytes_makeASCIISet_p0_ok fu d' fu) labs0)) (fun d d' => by kernel_rfl)
/- (*bytes.asciiSet).contains -/
def F_bytes_asciiSet_contains_out : RS (Bool × (List Bool)) := .one (α := Bool × (List Bool)) (.h .bool) [(0, .row .bool 75)] (fun r => (r.1, (r.2, ()))) (fun y => (y.1, y.2.1)) (fun _ => rfl)
def F_bytes_asciiSet_contains_hp : List (Nat × BPt) := [(0, .row .bool 75)]
def F_bytes_asciiSet_contains_args : List Pt := [.el 0 1, .h .byte]
def F_bytes_asciiSet_contains_ent (r : UInt8 → (List Bool) → Option (Bool × (List Bool))) : Ent := { key := .fn 67, args := F_bytes_asciiSet_contains_args, hp := F_bytes_asciiSet_contains_hp, R := (Bool × (List Bool)), F := fun d d' => r d.2.1 d'.1, out := F_bytes_asciiSet_contains_out }
noncomputable def F_bytes_asciiSet_contains_cx : Cx := { P := Tryd.prog, tb := ⟨[], etys, false⟩, fn := Tryd.f67, f := 67, ids := idsB F_bytes_asciiSet_contains_hp, rd := none, tags := [] }
theorem F_bytes_asciiSet_contains_cxok : (F_bytes_asciiSet_contains_cx).Ok (bodyOf Tryd.f67) := ⟨ents0, Tryd_mixed, Tryd.func67, tags0⟩
theorem F_bytes_asciiSet_contains_ok : (F_bytes_asciiSet_contains_ent (F_bytes_asciiSet_contains)).Sound Tryd.prog :=
  Ent.sound_fn (cx := F_bytes_asciiSet_contains_cx) (labs := []) (F_bytes_asciiSet_contains_cxok) rfl rfl rfl rfl Tryd.call67 (by kernel_rfl) (fun _ => labs0) (fun d d' => by kernel_rfl)
/- bytes.trimRightASCII -/
def F_bytes_trimRightASCII_out : RS ((List UInt8) × (List Bool)) := .one (α := (List UInt8) × (List Bool)) (.h (.list .byte)) [(0, .row .bool 75)] (fun r => (r.1, (r.2, ()))) (fun y => (y.1, y.2.1)) (fun _ => rfl)
def F_bytes_trimRightASCII_hp : List (Nat × BPt) := [(0, .row .bool 75)]
def F_bytes_trimRightASCII_args : List Pt := [.h (.list .byte), .el 0 1]
def F_bytes_trimRightASCII_ent (r : (List UInt8) → (List Bool) → Option ((List UInt8) × (List Bool))) : Ent := { key := .fn 63, args := F_bytes_trimRightASCII_args, hp := F_bytes_trimRightASCII_hp, R := ((List UInt8) × (List Bool)), F := fun d d' => r d.1 d'.1, out := F_bytes_trimRightASCII_out }
noncomputable def F_bytes_trimRightASCII_cx (fu : Nat) : Cx := { P := Tryd.prog, tb := ⟨[F_bytes_asciiSet_contains_ent F_bytes_asciiSet_contains], etys, false⟩, fn := Tryd.f63, f := 63, ids := idsB F_bytes_trimRightASCII_hp, rd := none, tags := [] }
theorem F_bytes_trimRightASCII_cxok (fu : Nat) : (F_bytes_trimRightASCII_cx fu).Ok (bodyOf Tryd.f63) := ⟨(ents1 F_bytes_asciiSet_contains_ok ents0), Tryd_mixed, Tryd.func63, tags0⟩
def F_bytes_trimRightASCII_l0 (r : (List UInt8) → (List Bool) → Option ((List UInt8) × (List Bool))) : Lab ((List UInt8) × (List Bool)) := ⟨[(0, [0, 0, 0, 0, 0, 1]), (0, [1, 0, 0, 0, 0, 1]), (0, [1, 0, 0, 0, 1]), (2, [0, 0, 1]), (1, [0, 1]), (0, [1, 1])], ⟨23, [(0, .h (.list .byte)), (1, .el 0 1)], [(0, .row .bool 75)], 64, []⟩, fun d => r d.1.1 d.2.1⟩
theorem F_bytes_trimRightASCII_b0_ok (fu : Nat) (d' : bden F_bytes_trimRightASCII_hp) (r0 : (List UInt8) → (List Bool) → Option ((List UInt8) × (List Bool))) (h0 : LabOk (F_bytes_trimRightASCII_cx fu) (bput F_bytes_trimRightASCII_hp d') F_bytes_trimRightASCII_out (bodyOf Tryd.f63) (F_bytes_trimRightASCII_l0 r0)) : LabOk (F_bytes_trimRightASCII_cx fu) (bput F_bytes_trimRightASCII_hp d') F_bytes_trimRightASCII_out (bodyOf Tryd.f63) (F_bytes_trimRightASCII_l0 (F_bytes_trimRightASCII_b0 fu r0)) :=
  LabOk.of_run (labs := [F_bytes_trimRightASCII_l0 (r0)]) (F_bytes_trimRightASCII_cxok fu) (fun _ _ h => idsB_look h) (labs1 h0 labs0) (fun d => by kernel_rfl)
theorem F_bytes_trimRightASCII_p0_ok (fu : Nat) (d' : bden F_bytes_trimRightASCII_hp) : ∀ n, LabOk (F_bytes_trimRightASCII_cx fu) (bput F_bytes_trimRightASCII_hp d') F_bytes_trimRightASCII_out (bodyOf Tryd.f63) (F_bytes_trimRightASCII_l0 (F_bytes_trimRightASCII_p0 fu n))
  | 0 => fun _ _ h => by cases h
  | n + 1 => F_bytes_trimRightASCII_b0_ok fu d' (F_bytes_trimRightASCII_p0 fu n) (F_bytes_trimRightASCII_p0_ok fu d' n)
theorem F_bytes_trimRightASCII_ok (fu : Nat) : (F_bytes_trimRightASCII_ent (F_bytes_trimRightASCII fu)).Sound Tryd.prog :=
  Ent.sound_fn (cx := F_bytes_trimRightASCII_cx fu) (labs := [F_bytes_trimRightASCII_l0 (F_bytes_trimRightASCII_p0 fu fu)]) (F_bytes_trimRightASCII_cxok fu) rfl rfl rfl rfl Tryd.call63 (by kernel_rfl) (fun d' => (labs1 (F_bytes_trimRightASCII_p0_ok fu d' fu) labs0)) (fun d d' => by kernel_rfl)
end Go.Sym
/- The Go functions compute the plain functions: printed by a program; each is reckoned by the kernel. -/
namespace Go.Sym
open Go.Proofs
set_option linter.unusedVariables false
set_option maxRecDepth 100000
/- unicode/utf8.RuneStart -/
def F_unicode_utf8_RuneStart_out : RS Bool := .one (α := Bool) (.h .bool) [] (fun r => (r, ())) (fun y => y.1) (fun _ => rfl)
def F_unicode_utf8_RuneStart_hp : List (Nat × BPt) := []
def F_unicode_utf8_RuneStart_args : List Pt := [.h .byte]
def F_unicode_utf8_RuneStart_ent (r : UInt8 → Option Bool) : Ent := { key := .fn 71, args := F_unicode_utf8_RuneStart_args, hp := F_unicode_utf8_RuneStart_hp, R := Bool, F := fun d _ => r d.1, out := F_unicode_utf8_RuneStart_out }
noncomputable def F_unicode_utf8_RuneStart_cx : Cx := { P := Tryd.prog, tb := ⟨[], etys, false⟩, fn := Tryd.f71, f := 71, ids := idsB F_unicode_utf8_RuneStart_hp, rd := none, tags := [] }
theorem F_unicode_utf8_RuneStart_cxok : (F_unicode_utf8_RuneStart_cx).Ok (bodyOf Tryd.f71) := ⟨ents0, Tryd_mixed, Tryd.func71, tags0⟩
theorem F_unicode_utf8_RuneStart_ok : (F_unicode_utf8_RuneStart_ent (F_unicode_utf8_RuneStart)).Sound Tryd.prog :=
  Ent.sound_fn (cx := F_unicode_utf8_RuneStart_cx) (labs := []) (F_unicode_utf8_RuneStart_cxok) rfl rfl rfl rfl Tryd.call71 (by kernel_rfl) (fun _ => labs0) (fun d d' => by kernel_rfl)
/- unicode/utf8.decodeRuneSlow -/
def F_unicode_utf8_decodeRuneSlow_out : RS (Int × Int) := .one (α := Int × Int) (.tup [.h (.int .i32), .h (.int .i64)]) [] (fun r => ((r.1, (r.2, ())), ())) (fun y => (y.1.1, y.1.2.1)) (fun _ => rfl)
def F_unicode_utf8_decodeRuneSlow_hp : List (Nat × BPt) := []
def F_unicode_utf8_decodeRuneSlow_args : List Pt := [.h (.list .byte)]
def F_unicode_utf8_decodeRuneSlow_ent (r : (List UInt8) → Option (Int × Int)) : Ent := { key := .fn 73, args := F_unicode_utf8_decodeRuneSlow_args, hp := F_unicode_utf8_decodeRuneSlow_hp, R := (Int × Int), F := fun d _ => r d.1, out := F_unicode_utf8_decodeRuneSlow_out }
noncomputable def F_unicode_utf8_decodeRuneSlow_cx : Cx := { P := Tryd.prog, tb := ⟨[], etys, false⟩, fn := Tryd.f73, f := 73, ids := idsB F_unicode_utf8_decodeRuneSlow_hp, rd := none, tags := [] }
theorem F_unicode_utf8_decodeRuneSlow_cxok : (F_unicode_utf8_decodeRuneSlow_cx).Ok (bodyOf Tryd.f73) := ⟨ents0, Tryd_mixed, Tryd.func73, tags0⟩
theorem F_unicode_utf8_decodeRuneSlow_ok : (F_unicode_utf8_decodeRuneSlow_ent (F_unicode_utf8_decodeRuneSlow)).Sound Tryd.prog :=
  Ent.sound_fn (cx := F_unicode_utf8_decodeRuneSlow_cx) (labs := []) (F_unicode_utf8_decodeRuneSlow_cxok) rfl rfl rfl rfl Tryd.call73 (by kernel_rfl) (fun _ => labs0) (fun d d' => by kernel_rfl)
/- unicode/utf8.DecodeRune -/
def F_unicode_utf8_DecodeRune_out : RS (Int × Int) := .one (α := Int × Int) (.tup [.h (.int .i32), .h (.int .i64)]) [] (fun r => ((r.1, (r.2, ())), ())) (fun y => (y.1.1, y.1.2.1)) (fun _ => rfl)
def F_unicode_utf8_DecodeRune_hp : List (Nat × BPt) := []
def F_unicode_utf8_DecodeRune_args : List Pt := [.h (.list .byte)]
def F_unicode_utf8_DecodeRune_ent (r : (List UInt8) → Option (Int × Int)) : Ent := { key := .fn 72, args := F_unicode_utf8_DecodeRune_args, hp := F_unicode_utf8_DecodeRune_hp, R := (Int × Int), F := fun d _ => r d.1, out := F_unicode_utf8_DecodeRune_out }
noncomputable def F_unicode_utf8_DecodeRune_cx (fu : Nat) : Cx := { P := Tryd.prog, tb := ⟨[F_unicode_utf8_decodeRuneSlow_ent F_unicode_utf8_decodeRuneSlow], etys, false⟩, fn := Tryd.f72, f := 72, ids := idsB F_unicode_utf8_DecodeRune_hp, rd := none, tags := [] }
theorem F_unicode_utf8_DecodeRune_cxok (fu : Nat) : (F_unicode_utf8_DecodeRune_cx fu).Ok (bodyOf Tryd.f72) := ⟨(ents1 F_unicode_utf8_decodeRuneSlow_ok ents0), Tryd_mixed, Tryd.func72, tags0⟩
def F_unicode_utf8_DecodeRune_l0 (r : (List UInt8) → (List UInt8) → Int → Option (Int × Int)) : Lab (Int × Int) := ⟨[(0, [0, 0, 0, 1, 0, 1]), (0, [1, 0, 0, 1, 0, 1]), (2, [0, 1, 0, 1]), (1, [1, 0, 1]), (0, [1, 1])], ⟨22, [(0, .h (.list .byte)), (6, .h (.list .byte)), (7, .h (.int .i64)), (8, .c (.int .i64 0))], [], 64, []⟩, fun d => r d.1.1 d.1.2.1 d.1.2.2.1⟩
theorem F_unicode_utf8_DecodeRune_b0_ok (fu : Nat) (d' : bden F_unicode_utf8_DecodeRune_hp) (r0 : (List UInt8) → (List UInt8) → Int → Option (Int × Int)) (h0 : LabOk (F_unicode_utf8_DecodeRune_cx fu) (bput F_unicode_utf8_DecodeRune_hp d') F_unicode_utf8_DecodeRune_out (bodyOf Tryd.f72) (F_unicode_utf8_DecodeRune_l0 r0)) : LabOk (F_unicode_utf8_DecodeRune_cx fu) (bput F_unicode_utf8_DecodeRune_hp d') F_unicode_utf8_DecodeRune_out (bodyOf Tryd.f72) (F_unicode_utf8_DecodeRune_l0 (F_unicode_utf8_DecodeRune_b0 fu r0)) :=
  LabOk.of_run (labs := []) (F_unicode_utf8_DecodeRune_cxok fu) (fun _ _ h => idsB_look h) labs0 (fun d => by kernel_rfl)
theorem F_unicode_utf8_DecodeRune_p0_ok (fu : Nat) (d' : bden F_unicode_utf8_DecodeRune_hp) : ∀ n, LabOk (F_unicode_utf8_DecodeRune_cx fu) (bput F_unicode_utf8_DecodeRune_hp d') F_unicode_utf8_DecodeRune_out (bodyOf Tryd.f72) (F_unicode_utf8_DecodeRune_l0 (F_unicode_utf8_DecodeRune_p0 fu n))
  | 0 => fun _ _ h => by cases h
  | n + 1 => F_unicode_utf8_DecodeRune_b0_ok fu d' (F_unicode_utf8_DecodeRune_p0 fu n) (F_unicode_utf8_DecodeRune_p0_ok fu d' n)
theorem F_unicode_utf8_DecodeRune_ok (fu : Nat) : (F_unicode_utf8_DecodeRune_ent (F_unicode_utf8_DecodeRune fu)).Sound Tryd.prog :=
  Ent.sound_fn (cx := F_unicode_utf8_DecodeRune_cx fu) (labs := [F_unicode_utf8_DecodeRune_l0 (F_unicode_utf8_DecodeRune_p0 fu fu)]) (F_unicode_utf8_DecodeRune_cxok fu) rfl rfl rfl rfl Tryd.call72 (by kernel_rfl) (fun d' => (labs1 (F_unicode_utf8_DecodeRune_p0_ok fu d' fu) labs0)) (fun d d' => by kernel_rfl)
/- unicode/utf8.DecodeLastRune -/
def F_unicode_utf8_DecodeLastRune_out : RS (Int × Int) := .one (α := Int × Int) (.tup [.h (.int .i32), .h (.int .i64)]) [] (fun r => ((r.1, (r.2, ())), ())) (fun y => (y.1.1, y.1.2.1)) (fun _ => rfl)
def F_unicode_utf8_DecodeLastRune_hp : List (Nat × BPt) := []
def F_unicode_utf8_DecodeLastRune_args : List Pt := [.h (.list .byte)]
def F_unicode_utf8_DecodeLastRune_ent (r : (List UInt8) → Option (Int × Int)) : Ent := { key := .fn 68, args := F_unicode_utf8_DecodeLastRune_args, hp := F_unicode_utf8_DecodeLastRune_hp, R := (Int × Int), F := fun d _ => r d.1, out := F_unicode_utf8_DecodeLastRune_out }
noncomputable def F_unicode_utf8_DecodeLastRune_cx (fu : Nat) : Cx := { P := Tryd.prog, tb := ⟨[F_unicode_utf8_RuneStart_ent F_unicode_utf8_RuneStart, F_unicode_utf8_DecodeRune_ent (F_unicode_utf8_DecodeRune fu)], etys, false⟩, fn := Tryd.f68, f := 68, ids := idsB F_unicode_utf8_DecodeLastRune_hp, rd := none, tags := [] }
theorem F_unicode_utf8_DecodeLastRune_cxok (fu : Nat) : (F_unicode_utf8_DecodeLastRune_cx fu).Ok (bodyOf Tryd.f68) := ⟨(ents1 F_unicode_utf8_RuneStart_ok (ents1 (F_unicode_utf8_DecodeRune_ok fu) ents0)), Tryd_mixed, Tryd.func68, tags0⟩
def F_unicode_utf8_DecodeLastRune_l2 (r : (List UInt8) → Int → Int → Option (Int × Int)) : Lab (Int × Int) := ⟨[(0, [0, 1, 1, 1, 1, 1, 1, 1, 1, 1]), (0, [1, 1, 1, 1, 1, 1, 1, 1, 1, 1])], ⟨53, [(0, .h (.list .byte)), (4, .h (.int .i64)), (5, .h (.int .i64))], [], 64, []⟩, fun d => r d.1.1 d.1.2.1 d.1.2.2.1⟩
def F_unicode_utf8_DecodeLastRune_l1 (r : (List UInt8) → Int → Int → Option (Int × Int)) : Lab (Int × Int) := ⟨[(0, [0, 0, 1, 1, 1, 1, 1, 1, 1, 1]), (0, [1, 0, 1, 1, 1, 1, 1, 1, 1, 1]), (0, [1, 1, 1, 1, 1, 1, 1, 1, 1])], ⟨53, [(0, .h (.list .byte)), (4, .h (.int .i64)), (5, .h (.int .i64))], [], 64, []⟩, fun d => r d.1.1 d.1.2.1 d.1.2.2.1⟩
def F_unicode_utf8_DecodeLastRune_l0 (r : (List UInt8) → Int → Int → Int → Option (Int × Int)) : Lab (Int × Int) := ⟨[(0, [0, 0, 0, 0, 1, 0, 1, 1, 1, 1, 1, 1, 1]), (0, [1, 0, 0, 0, 1, 0, 1, 1, 1, 1, 1, 1, 1]), (0, [1, 0, 0, 1, 0, 1, 1, 1, 1, 1, 1, 1]), (2, [0, 1, 0, 1, 1, 1, 1, 1, 1, 1]), (1, [1, 0, 1, 1, 1, 1, 1, 1, 1]), (0, [1, 1, 1, 1, 1, 1, 1, 1])], ⟨53, [(0, .h (.list .byte)), (4, .h (.int .i64)), (5, .h (.int .i64)), (6, .h (.int .i64))], [], 64, []⟩, fun d => r d.1.1 d.1.2.1 d.1.2.2.1 d.1.2.2.2.1⟩
theorem F_unicode_utf8_DecodeLastRune_p2_ok (fu : Nat) (d' : bden F_unicode_utf8_DecodeLastRune_hp) : LabOk (F_unicode_utf8_DecodeLastRune_cx fu) (bput F_unicode_utf8_DecodeLastRune_hp d') F_unicode_utf8_DecodeLastRune_out (bodyOf Tryd.f68) (F_unicode_utf8_DecodeLastRune_l2 (F_unicode_utf8_DecodeLastRune_p2 fu)) :=
  LabOk.of_run (labs := []) (F_unicode_utf8_DecodeLastRune_cxok fu) (fun _ _ h => idsB_look h) labs0 (fun d => by kernel_rfl)
theorem F_unicode_utf8_DecodeLastRune_p1_ok (fu : Nat) (d' : bden F_unicode_utf8_DecodeLastRune_hp) : LabOk (F_unicode_utf8_DecodeLastRune_cx fu) (bput F_unicode_utf8_DecodeLastRune_hp d') F_unicode_utf8_DecodeLastRune_out (bodyOf Tryd.f68) (F_unicode_utf8_DecodeLastRune_l1 (F_unicode_utf8_DecodeLastRune_p1 fu)) :=
  LabOk.of_run (labs := [F_unicode_utf8_DecodeLastRune_l2 (F_unicode_utf8_DecodeLastRune_p2 fu)]) (F_unicode_utf8_DecodeLastRune_cxok fu) (fun _ _ h => idsB_look h) (labs1 (F_unicode_utf8_DecodeLastRune_p2_ok fu d') labs0) (fun d => by kernel_rfl)
theorem F_unicode_utf8_DecodeLastRune_b0_ok (fu : Nat) (d' : bden F_unicode_utf8_DecodeLastRune_hp) (r0 : (List UInt8) → Int → Int → Int → Option (Int × Int)) (h0 : LabOk (F_unicode_utf8_DecodeLastRune_cx fu) (bput F_unicode_utf8_DecodeLastRune_hp d') F_unicode_utf8_DecodeLastRune_out (bodyOf Tryd.f68) (F_unicode_utf8_DecodeLastRune_l0 r0)) : LabOk (F_unicode_utf8_DecodeLastRune_cx fu) (bput F_unicode_utf8_DecodeLastRune_hp d') F_unicode_utf8_DecodeLastRune_out (bodyOf Tryd.f68) (F_unicode_utf8_DecodeLastRune_l0 (F_unicode_utf8_DecodeLastRune_b0 fu r0)) :=
  LabOk.of_run (labs := [F_unicode_utf8_DecodeLastRune_l1 (F_unicode_utf8_DecodeLastRune_p1 fu), F_unicode_utf8_DecodeLastRune_l0 (r0)]) (F_unicode_utf8_DecodeLastRune_cxok fu) (fun _ _ h => idsB_look h) (labs1 (F_unicode_utf8_DecodeLastRune_p1_ok fu d') (labs1 h0 labs0)) (fun d => by kernel_rfl)
theorem F_unicode_utf8_DecodeLastRune_p0_ok (fu : Nat) (d' : bden F_unicode_utf8_DecodeLastRune_hp) : ∀ n, LabOk (F_unicode_utf8_DecodeLastRune_cx fu) (bput F_unicode_utf8_DecodeLastRune_hp d') F_unicode_utf8_DecodeLastRune_out (bodyOf Tryd.f68) (F_unicode_utf8_DecodeLastRune_l0 (F_unicode_utf8_DecodeLastRune_p0 fu n))
  | 0 => fun _ _ h => by cases h
  | n + 1 => F_unicode_utf8_DecodeLastRune_b0_ok fu d' (F_unicode_utf8_DecodeLastRune_p0 fu n) (F_unicode_utf8_DecodeLastRune_p0_ok fu d' n)
theorem F_unicode_utf8_DecodeLastRune_ok (fu : Nat) : (F_unicode_utf8_DecodeLastRune_ent (F_unicode_utf8_DecodeLastRune fu)).Sound Tryd.prog :=
  Ent.sound_fn (cx := F_unicode_utf8_DecodeLastRune_cx fu) (labs := [F_unicode_utf8_DecodeLastRune_l0 (F_unicode_utf8_DecodeLastRune_p0 fu fu)]) (F_unicode_utf8_DecodeLastRune_cxok fu) rfl rfl rfl rfl Tryd.call68 (by kernel_rfl) (fun d' => (labs1 (F_unicode_utf8_DecodeLastRune_p0_ok fu d' fu) labs0)) (fun d d' => by kernel_rfl)
/- bytes.trimRightUnicode -/
def F_bytes_trimRightUnicode_out : RS ((List UInt8)) := .one (α := (List UInt8)) (.h (.list .byte)) [] (fun r => (r, ())) (fun y => y.1) (fun _ => rfl)
def F_bytes_trimRightUnicode_hp : List (Nat × BPt) := []
def F_bytes_trimRightUnicode_args : List Pt := [.h (.list .byte), .h .str]
def F_bytes_trimRightUnicode_ent (r : (List UInt8) → (List UInt8) → Option ((List UInt8))) : Ent := { key := .fn 64, args := F_bytes_trimRightUnicode_args, hp := F_bytes_trimRightUnicode_hp, R := ((List UInt8)), F := fun d _ => r d.1 d.2.1, out := F_bytes_trimRightUnicode_out }
noncomputable def F_bytes_trimRightUnicode_cx (fu : Nat) : Cx := { P := Tryd.prog, tb := ⟨[F_unicode_utf8_DecodeLastRune_ent (F_unicode_utf8_DecodeLastRune fu)], etys, false⟩, fn := Tryd.f64, f := 64, ids := idsB F_bytes_trimRightUnicode_hp, rd := none, tags := [] }
theorem F_bytes_trimRightUnicode_cxok (fu : Nat) : (F_bytes_trimRightUnicode_cx fu).Ok (bodyOf Tryd.f64) := ⟨(ents1 (F_unicode_utf8_DecodeLastRune_ok fu) ents0), Tryd_mixed, Tryd.func64, tags0⟩
def F_bytes_trimRightUnicode_l0 (r : (List UInt8) → (List UInt8) → Option ((List UInt8))) : Lab ((List UInt8)) := ⟨[(0, [0, 0, 0, 0, 0, 1]), (0, [1, 0, 0, 0, 0, 1]), (0, [1, 0, 0, 0, 1]), (2, [0, 0, 1]), (1, [0, 1]), (0, [1, 1])], ⟨35, [(0, .h (.list .byte)), (1, .h .str)], [], 64, []⟩, fun d => r d.1.1 d.1.2.1⟩
theorem F_bytes_trimRightUnicode_b0_ok (fu : Nat) (d' : bden F_bytes_trimRightUnicode_hp) (r0 : (List UInt8) → (List UInt8) → Option ((List UInt8))) (h0 : LabOk (F_bytes_trimRightUnicode_cx fu) (bput F_bytes_trimRightUnicode_hp d') F_bytes_trimRightUnicode_out (bodyOf Tryd.f64) (F_bytes_trimRightUnicode_l0 r0)) : LabOk (F_bytes_trimRightUnicode_cx fu) (bput F_bytes_trimRightUnicode_hp d') F_bytes_trimRightUnicode_out (bodyOf Tryd.f64) (F_bytes_trimRightUnicode_l0 (F_bytes_trimRightUnicode_b0 fu r0)) :=
  LabOk.of_run (labs := []) (F_bytes_trimRightUnicode_cxok fu) (fun _ _ h => idsB_look h) labs0 (fun d => by kernel_rfl)
theorem F_bytes_trimRightUnicode_p0_ok (fu : Nat) (d' : bden F_bytes_trimRightUnicode_hp) : ∀ n, LabOk (F_bytes_trimRightUnicode_cx fu) (bput F_bytes_trimRightUnicode_hp d') F_bytes_trimRightUnicode_out (bodyOf Tryd.f64) (F_bytes_trimRightUnicode_l0 (F_bytes_trimRightUnicode_p0 fu n))
  | 0 => fun _ _ h => by cases h
  | n + 1 => F_bytes_trimRightUnicode_b0_ok fu d' (F_bytes_trimRightUnicode_p0 fu n) (F_bytes_trimRightUnicode_p0_ok fu d' n)
theorem F_bytes_trimRightUnicode_ok (fu : Nat) : (F_bytes_trimRightUnicode_ent (F_bytes_trimRightUnicode fu)).Sound Tryd.prog :=
  Ent.sound_fn (cx := F_bytes_trimRightUnicode_cx fu) (labs := [F_bytes_trimRightUnicode_l0 (F_bytes_trimRightUnicode_p0 fu fu)]) (F_bytes_trimRightUnicode_cxok fu) rfl rfl rfl rfl Tryd.call64 (by kernel_rfl) (fun d' => (labs1 (F_bytes_trimRightUnicode_p0_ok fu d' fu) labs0)) (fun d d' => by kernel_rfl)
/- bytes.TrimRight -/
def F_bytes_TrimRight_out : RS ((List UInt8)) := .one (α := (List UInt8)) (.h (.list .byte)) [] (fun r => (r, ())) (fun y => y.1) (fun _ => rfl)
def F_bytes_TrimRight_hp : List (Nat × BPt) := []
def F_bytes_TrimRight_args : List Pt := [.h (.list .byte), .h .str]
def F_bytes_TrimRight_ent (r : (List UInt8) → (List UInt8) → Option ((List UInt8))) : Ent := { key := .fn 56, args := F_bytes_TrimRight_args, hp := F_bytes_TrimRight_hp, R := ((List UInt8)), F := fun d _ => r d.1 d.2.1, out := F_bytes_TrimRight_out }
noncomputable def F_bytes_TrimRight_cx (fu : Nat) : Cx := { P := Tryd.prog, tb := ⟨[F_bytes_trimRightByte_ent (F_bytes_trimRightByte fu), F_bytes_makeASCIISet_ent (F_bytes_makeASCIISet fu), F_bytes_trimRightASCII_ent (F_bytes_trimRightASCII fu), F_bytes_trimRightUnicode_ent (F_bytes_trimRightUnicode fu)], etys, false⟩, fn := Tryd.f56, f := 56, ids := idsB F_bytes_TrimRight_hp, rd := none, tags := [] }
theorem F_bytes_TrimRight_cxok (fu : Nat) : (F_bytes_TrimRight_cx fu).Ok (bodyOf Tryd.f56) := ⟨(ents1 (F_bytes_trimRightByte_ok fu) (ents1 (F_bytes_makeASCIISet_ok fu) (ents1 (F_bytes_trimRightASCII_ok fu) (ents1 (F_bytes_trimRightUnicode_ok fu) ents0)))), Tryd_mixed, Tryd.func56, tags0⟩
def F_bytes_TrimRight_l3 (r : (List UInt8) → (List UInt8) → Option ((List UInt8))) : Lab ((List UInt8)) := ⟨[(0, [0, 0, 1, 1, 1]), (0, [1, 0, 1, 1, 1]), (0, [1, 1, 1, 1])], ⟨38, [(0, .h (.list .byte)), (1, .h .str)], [], 64, []⟩, fun d => r d.1.1 d.1.2.1⟩
def F_bytes_TrimRight_l2 (r : (List UInt8) → (List UInt8) → Bool → Option ((List UInt8))) : Lab ((List UInt8)) := ⟨[(0, [1, 0, 1, 1]), (0, [1, 1, 1])], ⟨38, [(0, .h (.list .byte)), (1, .h .str), (22, .h .bool)], [], 64, []⟩, fun d => r d.1.1 d.1.2.1 d.1.2.2.1⟩
def F_bytes_TrimRight_l1 (r : (List UInt8) → (List UInt8) → Option ((List UInt8))) : Lab ((List UInt8)) := ⟨[(0, [0, 0, 1, 1]), (0, [1, 0, 1, 1]), (0, [1, 1, 1])], ⟨38, [(0, .h (.list .byte)), (1, .h .str)], [], 64, []⟩, fun d => r d.1.1 d.1.2.1⟩
def F_bytes_TrimRight_l0 (r : (List UInt8) → (List UInt8) → Bool → Option ((List UInt8))) : Lab ((List UInt8)) := ⟨[(0, [1, 0, 1]), (0, [1, 1])], ⟨38, [(0, .h (.list .byte)), (1, .h .str), (13, .h .bool)], [], 64, []⟩, fun d => r d.1.1 d.1.2.1 d.1.2.2.1⟩
theorem F_bytes_TrimRight_p3_ok (fu : Nat) (d' : bden F_bytes_TrimRight_hp) : LabOk (F_bytes_TrimRight_cx fu) (bput F_bytes_TrimRight_hp d') F_bytes_TrimRight_out (bodyOf Tryd.f56) (F_bytes_TrimRight_l3 (F_bytes_TrimRight_p3 fu)) :=
  LabOk.of_run (labs := []) (F_bytes_TrimRight_cxok fu) (fun _ _ h => idsB_look h) labs0 (fun d => by kernel_rfl)
theorem F_bytes_TrimRight_p2_ok (fu : Nat) (d' : bden F_bytes_TrimRight_hp) : LabOk (F_bytes_TrimRight_cx fu) (bput F_bytes_TrimRight_hp d') F_bytes_TrimRight_out (bodyOf Tryd.f56) (F_bytes_TrimRight_l2 (F_bytes_TrimRight_p2 fu)) :=
  LabOk.of_run (labs := [F_bytes_TrimRight_l3 (F_bytes_TrimRight_p3 fu)]) (F_bytes_TrimRight_cxok fu) (fun _ _ h => idsB_look h) (labs1 (F_bytes_TrimRight_p3_ok fu d') labs0) (fun d => by kernel_rfl)
theorem F_bytes_TrimRight_p1_ok (fu : Nat) (d' : bden F_bytes_TrimRight_hp) : LabOk (F_bytes_TrimRight_cx fu) (bput F_bytes_TrimRight_hp d') F_bytes_TrimRight_out (bodyOf Tryd.f56) (F_bytes_TrimRight_l1 (F_bytes_TrimRight_p1 fu)) :=
  LabOk.of_run (labs := [F_bytes_TrimRight_l2 (F_bytes_TrimRight_p2 fu)]) (F_bytes_TrimRight_cxok fu) (fun _ _ h => idsB_look h) (labs1 (F_bytes_TrimRight_p2_ok fu d') labs0) (fun d => by kernel_rfl)
theorem F_bytes_TrimRight_p0_ok (fu : Nat) (d' : bden F_bytes_TrimRight_hp) : LabOk (F_bytes_TrimRight_cx fu) (bput F_bytes_TrimRight_hp d') F_bytes_TrimRight_out (bodyOf Tryd.f56) (F_bytes_TrimRight_l0 (F_bytes_TrimRight_p0 fu)) :=
  LabOk.of_run (labs := [F_bytes_TrimRight_l1 (F_bytes_TrimRight_p1 fu)]) (F_bytes_TrimRight_cxok fu) (fun _ _ h => idsB_look h) (labs1 (F_bytes_TrimRight_p1_ok fu d') labs0) (fun d => by kernel_rfl)
theorem F_bytes_TrimRight_ok (fu : Nat) : (F_bytes_TrimRight_ent (F_bytes_TrimRight fu)).Sound Tryd.prog :=
  Ent.sound_fn (cx := F_bytes_TrimRight_cx fu) (labs := [F_bytes_TrimRight_l0 (F_bytes_TrimRight_p0 fu)]) (F_bytes_TrimRight_cxok fu) rfl rfl rfl rfl Tryd.call56 (by kernel_rfl) (fun d' => (labs1 (F_bytes_TrimRight_p0_ok fu d') labs0)) (fun d d' => by kernel_rfl)
/- posthouse/basic.Hex -/
def F_basic_Hex_out : RS (UInt8 × Bool) := .one (α := UInt8 × Bool) (.tup [.h .byte, .h .bool]) [] (fun r => ((r.1, (r.2, ())), ())) (fun y => (y.1.1, y.1.2.1)) (fun _ => rfl)
def F_basic_Hex_hp : List (Nat × BPt) := []
def F_basic_Hex_args : List Pt := [.h .byte]
def F_basic_Hex_ent (r : UInt8 → Option (UInt8 × Bool)) : Ent := { key := .fn 70, args := F_basic_Hex_args, hp := F_basic_Hex_hp, R := (UInt8 × Bool), F := fun d _ => r d.1, out := F_basic_Hex_out }
noncomputable def F_basic_Hex_cx : Cx := { P := Tryd.prog, tb := ⟨[], etys, false⟩, fn := Tryd.f70, f := 70, ids := idsB F_basic_Hex_hp, rd := none, tags := [] }
theorem F_basic_Hex_cxok : (F_basic_Hex_cx).Ok (bodyOf Tryd.f70) := ⟨ents0, Tryd_mixed, Tryd.func70, tags0⟩
def F_basic_Hex_l1 (r : UInt8 → Bool → Option (UInt8 × Bool)) : Lab (UInt8 × Bool) := ⟨[(0, [1, 1, 1, 0, 0, 1]), (1, [0, 1]), (0, [1, 1])], ⟨33, [(0, .h .byte), (13, .h .bool)], [], 64, []⟩, fun d => r d.1.1 d.1.2.1⟩
def F_basic_Hex_l0 (r : UInt8 → Bool → Option (UInt8 × Bool)) : Lab (UInt8 × Bool) := ⟨[(0, [1, 0, 0, 1]), (1, [0, 1]), (0, [1, 1])], ⟨33, [(0, .h .byte), (4, .h .bool)], [], 64, []⟩, fun d => r d.1.1 d.1.2.1⟩
theorem F_basic_Hex_p1_ok (d' : bden F_basic_Hex_hp) : LabOk (F_basic_Hex_cx) (bput F_basic_Hex_hp d') F_basic_Hex_out (bodyOf Tryd.f70) (F_basic_Hex_l1 (F_basic_Hex_p1)) :=
  LabOk.of_run (labs := []) (F_basic_Hex_cxok) (fun _ _ h => idsB_look h) labs0 (fun d => by kernel_rfl)
theorem F_basic_Hex_p0_ok (d' : bden F_basic_Hex_hp) : LabOk (F_basic_Hex_cx) (bput F_basic_Hex_hp d') F_basic_Hex_out (bodyOf Tryd.f70) (F_basic_Hex_l0 (F_basic_Hex_p0)) :=
  LabOk.of_run (labs := [F_basic_Hex_l1 (F_basic_Hex_p1)]) (F_basic_Hex_cxok) (fun _ _ h => idsB_look h) (labs1 (F_basic_Hex_p1_ok d') labs0) (fun d => by kernel_rfl)
theorem F_basic_Hex_ok : (F_basic_Hex_ent (F_basic_Hex)).Sound Tryd.prog :=
  Ent.sound_fn (cx := F_basic_Hex_cx) (labs := [F_basic_Hex_l0 (F_basic_Hex_p0)]) (F_basic_Hex_cxok) rfl rfl rfl rfl Tryd.call70 (by kernel_rfl) (fun d' => (labs1 (F_basic_Hex_p0_ok d') labs0)) (fun d d' => by kernel_rfl)
/- posthouse/basic.Pair -/
def F_basic_Pair_out : RS (UInt8 × Bool) := .one (α := UInt8 × Bool) (.tup [.h .byte, .h .bool]) [] (fun r => ((r.1, (r.2, ())), ())) (fun y => (y.1.1, y.1.2.1)) (fun _ => rfl)
def F_basic_Pair_hp : List (Nat × BPt) := []
def F_basic_Pair_args : List Pt := [.h .str]
def F_basic_Pair_ent (r : (List UInt8) → Option (UInt8 × Bool)) : Ent := { key := .fn 66, args := F_basic_Pair_args, hp := F_basic_Pair_hp, R := (UInt8 × Bool), F := fun d _ => r d.1, out := F_basic_Pair_out }
noncomputable def F_basic_Pair_cx : Cx := { P := Tryd.prog, tb := ⟨[F_basic_Hex_ent F_basic_Hex], etys, false⟩, fn := Tryd.f66, f := 66, ids := idsB F_basic_Pair_hp, rd := none, tags := [] }
theorem F_basic_Pair_cxok : (F_basic_Pair_cx).Ok (bodyOf Tryd.f66) := ⟨(ents1 F_basic_Hex_ok ents0), Tryd_mixed, Tryd.func66, tags0⟩
theorem F_basic_Pair_ok : (F_basic_Pair_ent (F_basic_Pair)).Sound Tryd.prog :=
  Ent.sound_fn (cx := F_basic_Pair_cx) (labs := []) (F_basic_Pair_cxok) rfl rfl rfl rfl Tryd.call66 (by kernel_rfl) (fun _ => labs0) (fun d d' => by kernel_rfl)
/- posthouse/quoted.plain -/
def F_quoted_plain_out : RS ((List UInt8)) := .one (α := (List UInt8)) (.own 0) [(0, .row .byte 5)] (fun r => ((), (r, ()))) (fun y => y.2.1) (fun _ => rfl)
def F_quoted_plain_hp : List (Nat × BPt) := []
def F_quoted_plain_args : List Pt := [.h (.list .byte)]
def F_quoted_plain_ent (r : (List UInt8) → Option ((List UInt8))) : Ent := { key := .fn 58, args := F_quoted_plain_args, hp := F_quoted_plain_hp, R := ((List UInt8)), F := fun d _ => r d.1, out := F_quoted_plain_out }
noncomputable def F_quoted_plain_cx (fu : Nat) : Cx := { P := Tryd.prog, tb := ⟨[F_basic_Pair_ent F_basic_Pair], etys, false⟩, fn := Tryd.f58, f := 58, ids := idsB F_quoted_plain_hp, rd := none, tags := [] }
theorem F_quoted_plain_cxok (fu : Nat) : (F_quoted_plain_cx fu).Ok (bodyOf Tryd.f58) := ⟨(ents1 F_basic_Pair_ok ents0), Tryd_mixed, Tryd.func58, tags0⟩
def F_quoted_plain_l0 (r : (List UInt8) → Int → (List UInt8) → Option ((List UInt8))) : Lab ((List UInt8)) := ⟨[(0, [0, 0, 0, 0, 1, 0, 1, 1]), (0, [1, 0, 0, 0, 1, 0, 1, 1]), (0, [1, 0, 0, 1, 0, 1, 1]), (2, [0, 1, 0, 1, 1]), (1, [1, 0, 1, 1]), (0, [1, 1, 1])], ⟨47, [(0, .h (.list .byte)), (3, .own 16), (4, .h (.int .i64))], [(16, .row .byte 5)], 64, []⟩, fun d => r d.1.1 d.1.2.2.1 d.2.1⟩
theorem F_quoted_plain_b0_ok (fu : Nat) (d' : bden F_quoted_plain_hp) (r0 : (List UInt8) → Int → (List UInt8) → Option ((List UInt8))) (h0 : LabOk (F_quoted_plain_cx fu) (bput F_quoted_plain_hp d') F_quoted_plain_out (bodyOf Tryd.f58) (F_quoted_plain_l0 r0)) : LabOk (F_quoted_plain_cx fu) (bput F_quoted_plain_hp d') F_quoted_plain_out (bodyOf Tryd.f58) (F_quoted_plain_l0 (F_quoted_plain_b0 fu r0)) :=
  LabOk.of_run (labs := [F_quoted_plain_l0 (r0)]) (F_quoted_plain_cxok fu) (fun _ _ h => idsB_look h) (labs1 h0 labs0) (fun d => by kernel_rfl)
theorem F_quoted_plain_p0_ok (fu : Nat) (d' : bden F_quoted_plain_hp) : ∀ n, LabOk (F_quoted_plain_cx fu) (bput F_quoted_plain_hp d') F_quoted_plain_out (bodyOf Tryd.f58) (F_quoted_plain_l0 (F_quoted_plain_p0 fu n))
  | 0 => fun _ _ h => by cases h
  | n + 1 => F_quoted_plain_b0_ok fu d' (F_quoted_plain_p0 fu n) (F_quoted_plain_p0_ok fu d' n)
theorem F_quoted_plain_ok (fu : Nat) : (F_quoted_plain_ent (F_quoted_plain fu)).Sound Tryd.prog :=
  Ent.sound_fn (cx := F_quoted_plain_cx fu) (labs := [F_quoted_plain_l0 (F_quoted_plain_p0 fu fu)]) (F_quoted_plain_cxok fu) rfl rfl rfl rfl Tryd.call58 (by kernel_rfl) (fun d' => (labs1 (F_quoted_plain_p0_ok fu d' fu) labs0)) (fun d d' => by kernel_rfl)
/- posthouse/quoted.Lenient -/
def F_quoted_Lenient_out : RS ((Int × Int) × (List UInt8)) := .one (α := (Int × Int) × (List UInt8)) (.tup [.own 0, .h (.prod (.int .i64) (.int .i64))]) [(0, .row .byte 5)] (fun r => (((), (r.1, ())), (r.2, ()))) (fun y => (y.1.2.1, y.2.1)) (fun _ => rfl)
def F_quoted_Lenient_hp : List (Nat × BPt) := []
def F_quoted_Lenient_args : List Pt := [.h (.list .byte)]
def F_quoted_Lenient_ent (r : (List UInt8) → Option ((Int × Int) × (List UInt8))) : Ent := { key := .fn 47, args := F_quoted_Lenient_args, hp := F_quoted_Lenient_hp, R := ((Int × Int) × (List UInt8)), F := fun d _ => r d.1, out := F_quoted_Lenient_out }
noncomputable def F_quoted_Lenient_cx (fu : Nat) : Cx := { P := Tryd.prog, tb := ⟨[F_basic_Fault_ent F_basic_Fault, F_bytes_IndexByte_ent F_bytes_IndexByte, F_basic_None_ent F_basic_None, F_bytes_TrimSuffix_ent F_bytes_TrimSuffix, F_bytes_TrimRight_ent (F_bytes_TrimRight fu), F_bytes_HasSuffix_ent F_bytes_HasSuffix, F_quoted_plain_ent (F_quoted_plain fu)], etys, false⟩, fn := Tryd.f47, f := 47, ids := idsB F_quoted_Lenient_hp, rd := none, tags := [] }
theorem F_quoted_Lenient_cxok (fu : Nat) : (F_quoted_Lenient_cx fu).Ok (bodyOf Tryd.f47) := ⟨(ents1 F_basic_Fault_ok (ents1 F_bytes_IndexByte_ok (ents1 F_basic_None_ok (ents1 F_bytes_TrimSuffix_ok (ents1 (F_bytes_TrimRight_ok fu) (ents1 F_bytes_HasSuffix_ok (ents1 (F_quoted_plain_ok fu) ents0))))))), Tryd_mixed, Tryd.func47, tags0⟩
def F_quoted_Lenient_l3 (r : (List UInt8) → Int → (List UInt8) → (List UInt8) → (Int × Int) → (List UInt8) → Option ((Int × Int) × (List UInt8))) : Lab ((Int × Int) × (List UInt8)) := ⟨[(0, [0, 1, 1, 1, 1, 1, 1, 1, 0, 1, 0, 0, 0, 1, 1, 1]), (0, [1, 1, 1, 1, 1, 1, 1, 1, 0, 1, 0, 0, 0, 1, 1, 1]), (1, [1, 0, 0, 0, 1, 1, 1]), (2, [0, 0, 1, 1, 1]), (1, [0, 1, 1, 1]), (0, [1, 1, 1, 1])], ⟨63, [(0, .h (.list .byte)), (3, .ptr 16 0), (4, .own 17), (5, .h (.int .i64)), (6, .h (.list .byte)), (7, .h (.list .byte))], [(16, .dat (.prod (.int .i64) (.int .i64)) 25), (17, .row .byte 5)], 64, []⟩, fun d => r d.1.1 d.1.2.2.2.1 d.1.2.2.2.2.1 d.1.2.2.2.2.2.1 d.2.1 d.2.2.1⟩
def F_quoted_Lenient_l2 (r : (List UInt8) → Int → (List UInt8) → (Int × Int) → (List UInt8) → Option ((Int × Int) × (List UInt8))) : Lab ((Int × Int) × (List UInt8)) := ⟨[(0, [0, 1, 1, 1, 1, 0, 1, 0, 0, 0, 1, 1, 1]), (0, [1, 1, 1, 1, 1, 0, 1, 0, 0, 0, 1, 1, 1]), (1, [1, 0, 0, 0, 1, 1, 1]), (2, [0, 0, 1, 1, 1]), (1, [0, 1, 1, 1]), (0, [1, 1, 1, 1])], ⟨63, [(0, .h (.list .byte)), (3, .ptr 16 0), (4, .own 17), (5, .h (.int .i64)), (6, .h (.list .byte))], [(16, .dat (.prod (.int .i64) (.int .i64)) 25), (17, .row .byte 5)], 64, []⟩, fun d => r d.1.1 d.1.2.2.2.1 d.1.2.2.2.2.1 d.2.1 d.2.2.1⟩
def F_quoted_Lenient_l1 (r : (List UInt8) → Int → (Int × Int) → (List UInt8) → Option ((Int × Int) × (List UInt8))) : Lab ((Int × Int) × (List UInt8)) := ⟨[(0, [0, 1, 1, 0, 1, 0, 0, 0, 1, 1, 1]), (0, [1, 1, 1, 0, 1, 0, 0, 0, 1, 1, 1]), (1, [1, 0, 0, 0, 1, 1, 1]), (2, [0, 0, 1, 1, 1]), (1, [0, 1, 1, 1]), (0, [1, 1, 1, 1])], ⟨63, [(0, .h (.list .byte)), (3, .ptr 16 0), (4, .own 17), (5, .h (.int .i64))], [(16, .dat (.prod (.int .i64) (.int .i64)) 25), (17, .row .byte 5)], 64, []⟩, fun d => r d.1.1 d.1.2.2.2.1 d.2.1 d.2.2.1⟩
def F_quoted_Lenient_l0 (r : (List UInt8) → (Int × Int) → (List UInt8) → Option ((Int × Int) × (List UInt8))) : Lab ((Int × Int) × (List UInt8)) := ⟨[(0, [0, 0, 0, 0, 0, 1, 1, 1]), (0, [1, 0, 0, 0, 0, 1, 1, 1]), (0, [1, 0, 0, 0, 1, 1, 1]), (2, [0, 0, 1, 1, 1]), (1, [0, 1, 1, 1]), (0, [1, 1, 1, 1])], ⟨63, [(0, .h (.list .byte)), (3, .ptr 16 0), (4, .own 17)], [(16, .dat (.prod (.int .i64) (.int .i64)) 25), (17, .row .byte 5)], 64, []⟩, fun d => r d.1.1 d.2.1 d.2.2.1⟩
theorem F_quoted_Lenient_p3_ok (fu : Nat) (d' : bden F_quoted_Lenient_hp) (r0 : (List UInt8) → (Int × Int) → (List UInt8) → Option ((Int × Int) × (List UInt8))) (h0 : LabOk (F_quoted_Lenient_cx fu) (bput F_quoted_Lenient_hp d') F_quoted_Lenient_out (bodyOf Tryd.f47) (F_quoted_Lenient_l0 r0)) : LabOk (F_quoted_Lenient_cx fu) (bput F_quoted_Lenient_hp d') F_quoted_Lenient_out (bodyOf Tryd.f47) (F_quoted_Lenient_l3 (F_quoted_Lenient_p3 fu r0)) :=
  LabOk.of_run (labs := [F_quoted_Lenient_l0 (r0)]) (F_quoted_Lenient_cxok fu) (fun _ _ h => idsB_look h) (labs1 h0 labs0) (fun d => by kernel_rfl)
theorem F_quoted_Lenient_p2_ok (fu : Nat) (d' : bden F_quoted_Lenient_hp) (r0 : (List UInt8) → (Int × Int) → (List UInt8) → Option ((Int × Int) × (List UInt8))) (h0 : LabOk (F_quoted_Lenient_cx fu) (bput F_quoted_Lenient_hp d') F_quoted_Lenient_out (bodyOf Tryd.f47) (F_quoted_Lenient_l0 r0)) : LabOk (F_quoted_Lenient_cx fu) (bput F_quoted_Lenient_hp d') F_quoted_Lenient_out (bodyOf Tryd.f47) (F_quoted_Lenient_l2 (F_quoted_Lenient_p2 fu r0)) :=
  LabOk.of_run (labs := [F_quoted_Lenient_l3 (F_quoted_Lenient_p3 fu r0)]) (F_quoted_Lenient_cxok fu) (fun _ _ h => idsB_look h) (labs1 (F_quoted_Lenient_p3_ok fu d' r0 h0) labs0) (fun d => by kernel_rfl)
theorem F_quoted_Lenient_p1_ok (fu : Nat) (d' : bden F_quoted_Lenient_hp) (r0 : (List UInt8) → (Int × Int) → (List UInt8) → Option ((Int × Int) × (List UInt8))) (h0 : LabOk (F_quoted_Lenient_cx fu) (bput F_quoted_Lenient_hp d') F_quoted_Lenient_out (bodyOf Tryd.f47) (F_quoted_Lenient_l0 r0)) : LabOk (F_quoted_Lenient_cx fu) (bput F_quoted_Lenient_hp d') F_quoted_Lenient_out (bodyOf Tryd.f47) (F_quoted_Lenient_l1 (F_quoted_Lenient_p1 fu r0)) :=
  LabOk.of_run (labs := [F_quoted_Lenient_l2 (F_quoted_Lenient_p2 fu r0)]) (F_quoted_Lenient_cxok fu) (fun _ _ h => idsB_look h) (labs1 (F_quoted_Lenient_p2_ok fu d' r0 h0) labs0) (fun d => by kernel_rfl)
theorem F_quoted_Lenient_b0_ok (fu : Nat) (d' : bden F_quoted_Lenient_hp) (r0 : (List UInt8) → (Int × Int) → (List UInt8) → Option ((Int × Int) × (List UInt8))) (h0 : LabOk (F_quoted_Lenient_cx fu) (bput F_quoted_Lenient_hp d') F_quoted_Lenient_out (bodyOf Tryd.f47) (F_quoted_Lenient_l0 r0)) : LabOk (F_quoted_Lenient_cx fu) (bput F_quoted_Lenient_hp d') F_quoted_Lenient_out (bodyOf Tryd.f47) (F_quoted_Lenient_l0 (F_quoted_Lenient_b0 fu r0)) :=
  LabOk.of_run (labs := [F_quoted_Lenient_l1 (F_quoted_Lenient_p1 fu r0)]) (F_quoted_Lenient_cxok fu) (fun _ _ h => idsB_look h) (labs1 (F_quoted_Lenient_p1_ok fu d' r0 h0) labs0) (fun d => by kernel_rfl)
theorem F_quoted_Lenient_p0_ok (fu : Nat) (d' : bden F_quoted_Lenient_hp) : ∀ n, LabOk (F_quoted_Lenient_cx fu) (bput F_quoted_Lenient_hp d') F_quoted_Lenient_out (bodyOf Tryd.f47) (F_quoted_Lenient_l0 (F_quoted_Lenient_p0 fu n))
  | 0 => fun _ _ h => by cases h
  | n + 1 => F_quoted_Lenient_b0_ok fu d' (F_quoted_Lenient_p0 fu n) (F_quoted_Lenient_p0_ok fu d' n)
theorem F_quoted_Lenient_ok (fu : Nat) : (F_quoted_Lenient_ent (F_quoted_Lenient fu)).Sound Tryd.prog :=
  Ent.sound_fn (cx := F_quoted_Lenient_cx fu) (labs := [F_quoted_Lenient_l0 (F_quoted_Lenient_p0 fu fu)]) (F_quoted_Lenient_cxok fu) rfl rfl rfl rfl Tryd.call47 (by kernel_rfl) (fun d' => (labs1 (F_quoted_Lenient_p0_ok fu d' fu) labs0)) (fun d d' => by kernel_rfl)
/- posthouse/transfer.Decode -/
def F_transfer_Decode_out : RS ((Int × Int) × (List UInt8)) := .one (α := (Int × Int) × (List UInt8)) (.tup [.own 0, .h (.prod (.int .i64) (.int .i64))]) [(0, .row .byte 5)] (fun r => (((), (r.1, ())), (r.2, ()))) (fun y => (y.1.2.1, y.2.1)) (fun _ => rfl)
def F_transfer_Decode_hp : List (Nat × BPt) := []
def F_transfer_Decode_args : List Pt := [.h (.list .byte), .h .str]
def F_transfer_Decode_ent (r : (List UInt8) → (List UInt8) → Option ((Int × Int) × (List UInt8))) : Ent := { key := .fn 15, args := F_transfer_Decode_args, hp := F_transfer_Decode_hp, R := ((Int × Int) × (List UInt8)), F := fun d _ => r d.1 d.2.1, out := F_transfer_Decode_out }
noncomputable def F_transfer_Decode_cx (fu : Nat) : Cx := { P := Tryd.prog, tb := ⟨[F_transfer_valid_ent (F_transfer_valid fu), F_basic_Failed_ent F_basic_Failed, F_transfer_copied_ent F_transfer_copied, F_base64_Lenient_ent (F_base64_Lenient fu), F_quoted_Lenient_ent (F_quoted_Lenient fu)], etys, false⟩, fn := Tryd.f15, f := 15, ids := idsB F_transfer_Decode_hp, rd := none, tags := [] }
theorem F_transfer_Decode_cxok (fu : Nat) : (F_transfer_Decode_cx fu).Ok (bodyOf Tryd.f15) := ⟨(ents1 (F_transfer_valid_ok fu) (ents1 F_basic_Failed_ok (ents1 F_transfer_copied_ok (ents1 (F_base64_Lenient_ok fu) (ents1 (F_quoted_Lenient_ok fu) ents0))))), Tryd_mixed, Tryd.func15, tags0⟩
theorem F_transfer_Decode_ok (fu : Nat) : (F_transfer_Decode_ent (F_transfer_Decode fu)).Sound Tryd.prog :=
  Ent.sound_fn (cx := F_transfer_Decode_cx fu) (labs := []) (F_transfer_Decode_cxok fu) rfl rfl rfl rfl Tryd.call15 (by kernel_rfl) (fun _ => labs0) (fun d d' => by kernel_rfl)
/- posthouse/transfer.Choose -/
def F_transfer_Choose_out : RS ((List UInt8) × (Int × Int)) := .one (α := (List UInt8) × (Int × Int)) (.tup [.h .str, .h (.prod (.int .i64) (.int .i64))]) [] (fun r => ((r.1, (r.2, ())), ())) (fun y => (y.1.1, y.1.2.1)) (fun _ => rfl)
def F_transfer_Choose_hp : List (Nat × BPt) := []
def F_transfer_Choose_args : List Pt := [.h (.list .byte)]
def F_transfer_Choose_ent (r : (List UInt8) → Option ((List UInt8) × (Int × Int))) : Ent := { key := .fn 17, args := F_transfer_Choose_args, hp := F_transfer_Choose_hp, R := ((List UInt8) × (Int × Int)), F := fun d _ => r d.1, out := F_transfer_Choose_out }
noncomputable def F_transfer_Choose_cx (fu : Nat) : Cx := { P := Tryd.prog, tb := ⟨[F_basic_Fault_ent F_basic_Fault, F_transfer_wrong_ent (F_transfer_wrong fu), F_basic_None_ent F_basic_None, F_quoted_Encode_ent (F_quoted_Encode fu), F_base64_Encode_ent (F_base64_Encode fu)], etys, false⟩, fn := Tryd.f17, f := 17, ids := idsB F_transfer_Choose_hp, rd := none, tags := [] }
theorem F_transfer_Choose_cxok (fu : Nat) : (F_transfer_Choose_cx fu).Ok (bodyOf Tryd.f17) := ⟨(ents1 F_basic_Fault_ok (ents1 (F_transfer_wrong_ok fu) (ents1 F_basic_None_ok (ents1 (F_quoted_Encode_ok fu) (ents1 (F_base64_Encode_ok fu) ents0))))), Tryd_mixed, Tryd.func17, tags0⟩
theorem F_transfer_Choose_ok (fu : Nat) : (F_transfer_Choose_ent (F_transfer_Choose fu)).Sound Tryd.prog :=
  Ent.sound_fn (cx := F_transfer_Choose_cx fu) (labs := []) (F_transfer_Choose_cxok fu) rfl rfl rfl rfl Tryd.call17 (by kernel_rfl) (fun _ => labs0) (fun d d' => by kernel_rfl)
/- posthouse/posthouseref1.At -/
def F_R1_At_out : RS ((Int × Int)) := .one (α := (Int × Int)) (.h (.prod (.int .i64) (.int .i64))) [] (fun r => (r, ())) (fun y => y.1) (fun _ => rfl)
def F_R1_At_hp : List (Nat × BPt) := []
def F_R1_At_args : List Pt := [.h (.int .i64), .h (.int .i64)]
def F_R1_At_ent (r : Int → Int → Option ((Int × Int))) : Ent := { key := .fn 11, args := F_R1_At_args, hp := F_R1_At_hp, R := ((Int × Int)), F := fun d _ => r d.1 d.2.1, out := F_R1_At_out }
noncomputable def F_R1_At_cx : Cx := { P := Tryd.prog, tb := ⟨[], etys, false⟩, fn := Tryd.f11, f := 11, ids := idsB F_R1_At_hp, rd := none, tags := [] }
theorem F_R1_At_cxok : (F_R1_At_cx).Ok (bodyOf Tryd.f11) := ⟨ents0, Tryd_mixed, Tryd.func11, tags0⟩
theorem F_R1_At_ok : (F_R1_At_ent (F_R1_At)).Sound Tryd.prog :=
  Ent.sound_fn (cx := F_R1_At_cx) (labs := []) (F_R1_At_cxok) rfl rfl rfl rfl Tryd.call11 (by kernel_rfl) (fun _ => labs0) (fun d d' => by kernel_rfl)
/- posthouse/posthouselaw2.transferExample -/
def F_W2_transferExample_out : RS Bool := .one (α := Bool) (.h .bool) [] (fun r => (r, ())) (fun y => y.1) (fun _ => rfl)
def F_W2_transferExample_hp : List (Nat × BPt) := []
def F_W2_transferExample_args : List Pt := []
def F_W2_transferExample_ent (r : Option Bool) : Ent := { key := .fn 8, args := F_W2_transferExample_args, hp := F_W2_transferExample_hp, R := Bool, F := fun _ _ => r, out := F_W2_transferExample_out }
noncomputable def F_W2_transferExample_cx (fu : Nat) : Cx := { P := Tryd.prog, tb := ⟨[F_transfer_Encode_ent (F_transfer_Encode fu), F_transfer_Decode_ent (F_transfer_Decode fu), F_transfer_Choose_ent (F_transfer_Choose fu), F_R1_At_ent F_R1_At], etys, false⟩, fn := Tryd.f8, f := 8, ids := idsB F_W2_transferExample_hp, rd := none, tags := [] }
theorem F_W2_transferExample_cxok (fu : Nat) : (F_W2_transferExample_cx fu).Ok (bodyOf Tryd.f8) := ⟨(ents1 (F_transfer_Encode_ok fu) (ents1 (F_transfer_Decode_ok fu) (ents1 (F_transfer_Choose_ok fu) (ents1 F_R1_At_ok ents0)))), Tryd_mixed, Tryd.func8, tags0⟩
theorem F_W2_transferExample_ok (fu : Nat) : (F_W2_transferExample_ent (F_W2_transferExample fu)).Sound Tryd.prog :=
  Ent.sound_fn (cx := F_W2_transferExample_cx fu) (labs := []) (F_W2_transferExample_cxok fu) rfl rfl rfl rfl Tryd.call8 (by kernel_rfl) (fun _ => labs0) (fun d d' => by kernel_rfl)
/- posthouse/posthouseref1.In -/
def F_R1_In_out : RS Bool := .one (α := Bool) (.h .bool) [] (fun r => (r, ())) (fun y => y.1) (fun _ => rfl)
def F_R1_In_hp : List (Nat × BPt) := []
def F_R1_In_args : List Pt := [.h (.int .i64), .h (.int .i64), .h (.int .i64)]
def F_R1_In_ent (r : Int → Int → Int → Option Bool) : Ent := { key := .fn 42, args := F_R1_In_args, hp := F_R1_In_hp, R := Bool, F := fun d _ => r d.1 d.2.1 d.2.2.1, out := F_R1_In_out }
noncomputable def F_R1_In_cx : Cx := { P := Tryd.prog, tb := ⟨[], etys, false⟩, fn := Tryd.f42, f := 42, ids := idsB F_R1_In_hp, rd := none, tags := [] }
theorem F_R1_In_cxok : (F_R1_In_cx).Ok (bodyOf Tryd.f42) := ⟨ents0, Tryd_mixed, Tryd.func42, tags0⟩
theorem F_R1_In_ok : (F_R1_In_ent (F_R1_In)).Sound Tryd.prog :=
  Ent.sound_fn (cx := F_R1_In_cx) (labs := []) (F_R1_In_cxok) rfl rfl rfl rfl Tryd.call42 (by kernel_rfl) (fun _ => labs0) (fun d d' => by kernel_rfl)
/- posthouse/posthouseref1.Lower -/
def F_R1_Lower_out : RS ((List UInt8)) := .one (α := (List UInt8)) (.h .str) [] (fun r => (r, ())) (fun y => y.1) (fun _ => rfl)
def F_R1_Lower_hp : List (Nat × BPt) := []
def F_R1_Lower_args : List Pt := [.h .str]
def F_R1_Lower_ent (r : (List UInt8) → Option ((List UInt8))) : Ent := { key := .fn 34, args := F_R1_Lower_args, hp := F_R1_Lower_hp, R := ((List UInt8)), F := fun d _ => r d.1, out := F_R1_Lower_out }
noncomputable def F_R1_Lower_cx (fu : Nat) : Cx := { P := Tryd.prog, tb := ⟨[F_R1_In_ent F_R1_In], etys, false⟩, fn := Tryd.f34, f := 34, ids := idsB F_R1_Lower_hp, rd := none, tags := [] }
theorem F_R1_Lower_cxok (fu : Nat) : (F_R1_Lower_cx fu).Ok (bodyOf Tryd.f34) := ⟨(ents1 F_R1_In_ok ents0), Tryd_mixed, Tryd.func34, tags0⟩
def F_R1_Lower_l0 (r : Int → (List UInt8) → Option ((List UInt8))) : Lab ((List UInt8)) := ⟨[(0, [0, 0, 0, 0, 1, 0, 1, 1]), (0, [1, 0, 0, 0, 1, 0, 1, 1]), (0, [1, 0, 0, 1, 0, 1, 1]), (2, [0, 1, 0, 1, 1]), (1, [1, 0, 1, 1]), (0, [1, 1, 1])], ⟨29, [(3, .own 16), (4, .h (.int .i64))], [(16, .row .byte 5)], 64, []⟩, fun d => r d.1.2.1 d.2.1⟩
theorem F_R1_Lower_b0_ok (fu : Nat) (d' : bden F_R1_Lower_hp) (r0 : Int → (List UInt8) → Option ((List UInt8))) (h0 : LabOk (F_R1_Lower_cx fu) (bput F_R1_Lower_hp d') F_R1_Lower_out (bodyOf Tryd.f34) (F_R1_Lower_l0 r0)) : LabOk (F_R1_Lower_cx fu) (bput F_R1_Lower_hp d') F_R1_Lower_out (bodyOf Tryd.f34) (F_R1_Lower_l0 (F_R1_Lower_b0 fu r0)) :=
  LabOk.of_run (labs := [F_R1_Lower_l0 (r0)]) (F_R1_Lower_cxok fu) (fun _ _ h => idsB_look h) (labs1 h0 labs0) (fun d => by kernel_rfl)
theorem F_R1_Lower_p0_ok (fu : Nat) (d' : bden F_R1_Lower_hp) : ∀ n, LabOk (F_R1_Lower_cx fu) (bput F_R1_Lower_hp d') F_R1_Lower_out (bodyOf Tryd.f34) (F_R1_Lower_l0 (F_R1_Lower_p0 fu n))
  | 0 => fun _ _ h => by cases h
  | n + 1 => F_R1_Lower_b0_ok fu d' (F_R1_Lower_p0 fu n) (F_R1_Lower_p0_ok fu d' n)
theorem F_R1_Lower_ok (fu : Nat) : (F_R1_Lower_ent (F_R1_Lower fu)).Sound Tryd.prog :=
  Ent.sound_fn (cx := F_R1_Lower_cx fu) (labs := [F_R1_Lower_l0 (F_R1_Lower_p0 fu fu)]) (F_R1_Lower_cxok fu) rfl rfl rfl rfl Tryd.call34 (by kernel_rfl) (fun d' => (labs1 (F_R1_Lower_p0_ok fu d' fu) labs0)) (fun d d' => by kernel_rfl)
/- posthouse/posthouseref1.Alike -/
def F_R1_Alike_out : RS Bool := .one (α := Bool) (.h .bool) [] (fun r => (r, ())) (fun y => y.1) (fun _ => rfl)
def F_R1_Alike_hp : List (Nat × BPt) := []
def F_R1_Alike_args : List Pt := [.h .str, .h .str]
def F_R1_Alike_ent (r : (List UInt8) → (List UInt8) → Option Bool) : Ent := { key := .fn 22, args := F_R1_Alike_args, hp := F_R1_Alike_hp, R := Bool, F := fun d _ => r d.1 d.2.1, out := F_R1_Alike_out }
noncomputable def F_R1_Alike_cx (fu : Nat) : Cx := { P := Tryd.prog, tb := ⟨[F_R1_Lower_ent (F_R1_Lower fu)], etys, false⟩, fn := Tryd.f22, f := 22, ids := idsB F_R1_Alike_hp, rd := none, tags := [] }
theorem F_R1_Alike_cxok (fu : Nat) : (F_R1_Alike_cx fu).Ok (bodyOf Tryd.f22) := ⟨(ents1 (F_R1_Lower_ok fu) ents0), Tryd_mixed, Tryd.func22, tags0⟩
theorem F_R1_Alike_ok (fu : Nat) : (F_R1_Alike_ent (F_R1_Alike fu)).Sound Tryd.prog :=
  Ent.sound_fn (cx := F_R1_Alike_cx fu) (labs := []) (F_R1_Alike_cxok fu) rfl rfl rfl rfl Tryd.call22 (by kernel_rfl) (fun _ => labs0) (fun d d' => by kernel_rfl)
/- posthouse/posthouseref2.CodingOf -/
def F_R2_CodingOf_out : RS Int := .one (α := Int) (.h (.int .i64)) [] (fun r => (r, ())) (fun y => y.1) (fun _ => rfl)
def F_R2_CodingOf_hp : List (Nat × BPt) := []
def F_R2_CodingOf_args : List Pt := [.h .str]
def F_R2_CodingOf_ent (r : (List UInt8) → Option Int) : Ent := { key := .fn 10, args := F_R2_CodingOf_args, hp := F_R2_CodingOf_hp, R := Int, F := fun d _ => r d.1, out := F_R2_CodingOf_out }
noncomputable def F_R2_CodingOf_cx (fu : Nat) : Cx := { P := Tryd.prog, tb := ⟨[F_R1_Alike_ent (F_R1_Alike fu)], etys, false⟩, fn := Tryd.f10, f := 10, ids := idsB F_R2_CodingOf_hp, rd := none, tags := [] }
theorem F_R2_CodingOf_cxok (fu : Nat) : (F_R2_CodingOf_cx fu).Ok (bodyOf Tryd.f10) := ⟨(ents1 (F_R1_Alike_ok fu) ents0), Tryd_mixed, Tryd.func10, tags0⟩
theorem F_R2_CodingOf_ok (fu : Nat) : (F_R2_CodingOf_ent (F_R2_CodingOf fu)).Sound Tryd.prog :=
  Ent.sound_fn (cx := F_R2_CodingOf_cx fu) (labs := []) (F_R2_CodingOf_cxok fu) rfl rfl rfl rfl Tryd.call10 (by kernel_rfl) (fun _ => labs0) (fun d d' => by kernel_rfl)
/- posthouse/posthouseref1.Crlf -/
def F_R1_Crlf_out : RS Bool := .one (α := Bool) (.h .bool) [] (fun r => (r, ())) (fun y => y.1) (fun _ => rfl)
def F_R1_Crlf_hp : List (Nat × BPt) := []
def F_R1_Crlf_args : List Pt := [.h (.list .byte), .h (.int .i64)]
def F_R1_Crlf_ent (r : (List UInt8) → Int → Option Bool) : Ent := { key := .fn 23, args := F_R1_Crlf_args, hp := F_R1_Crlf_hp, R := Bool, F := fun d _ => r d.1 d.2.1, out := F_R1_Crlf_out }
noncomputable def F_R1_Crlf_cx : Cx := { P := Tryd.prog, tb := ⟨[], etys, false⟩, fn := Tryd.f23, f := 23, ids := idsB F_R1_Crlf_hp, rd := none, tags := [] }
theorem F_R1_Crlf_cxok : (F_R1_Crlf_cx).Ok (bodyOf Tryd.f23) := ⟨ents0, Tryd_mixed, Tryd.func23, tags0⟩
theorem F_R1_Crlf_ok : (F_R1_Crlf_ent (F_R1_Crlf)).Sound Tryd.prog :=
  Ent.sound_fn (cx := F_R1_Crlf_cx) (labs := []) (F_R1_Crlf_cxok) rfl rfl rfl rfl Tryd.call23 (by kernel_rfl) (fun _ => labs0) (fun d d' => by kernel_rfl)
/- posthouse/posthouseref2.Refused -/
def F_R2_Refused_out : RS Int := .one (α := Int) (.h (.int .i64)) [] (fun r => (r, ())) (fun y => y.1) (fun _ => rfl)
def F_R2_Refused_hp : List (Nat × BPt) := []
def F_R2_Refused_args : List Pt := [.h (.list .byte), .h .bool]
def F_R2_Refused_ent (r : (List UInt8) → Bool → Option Int) : Ent := { key := .fn 12, args := F_R2_Refused_args, hp := F_R2_Refused_hp, R := Int, F := fun d _ => r d.1 d.2.1, out := F_R2_Refused_out }
noncomputable def F_R2_Refused_cx (fu : Nat) : Cx := { P := Tryd.prog, tb := ⟨[F_R1_Crlf_ent F_R1_Crlf], etys, false⟩, fn := Tryd.f12, f := 12, ids := idsB F_R2_Refused_hp, rd := none, tags := [] }
theorem F_R2_Refused_cxok (fu : Nat) : (F_R2_Refused_cx fu).Ok (bodyOf Tryd.f12) := ⟨(ents1 F_R1_Crlf_ok ents0), Tryd_mixed, Tryd.func12, tags0⟩
def F_R2_Refused_l0 (r : (List UInt8) → Bool → Int → Int → Option Int) : Lab Int := ⟨[(0, [0, 0, 0, 0, 1, 0, 1, 1]), (0, [1, 0, 0, 0, 1, 0, 1, 1]), (0, [1, 0, 0, 1, 0, 1, 1]), (2, [0, 1, 0, 1, 1]), (1, [1, 0, 1, 1]), (0, [1, 1, 1])], ⟨57, [(0, .h (.list .byte)), (1, .h .bool), (5, .h (.int .i64)), (6, .h (.int .i64))], [], 64, []⟩, fun d => r d.1.1 d.1.2.1 d.1.2.2.1 d.1.2.2.2.1⟩
theorem F_R2_Refused_b0_ok (fu : Nat) (d' : bden F_R2_Refused_hp) (r0 : (List UInt8) → Bool → Int → Int → Option Int) (h0 : LabOk (F_R2_Refused_cx fu) (bput F_R2_Refused_hp d') F_R2_Refused_out (bodyOf Tryd.f12) (F_R2_Refused_l0 r0)) : LabOk (F_R2_Refused_cx fu) (bput F_R2_Refused_hp d') F_R2_Refused_out (bodyOf Tryd.f12) (F_R2_Refused_l0 (F_R2_Refused_b0 fu r0)) :=
  LabOk.of_run (labs := [F_R2_Refused_l0 (r0)]) (F_R2_Refused_cxok fu) (fun _ _ h => idsB_look h) (labs1 h0 labs0) (fun d => by kernel_rfl)
theorem F_R2_Refused_p0_ok (fu : Nat) (d' : bden F_R2_Refused_hp) : ∀ n, LabOk (F_R2_Refused_cx fu) (bput F_R2_Refused_hp d') F_R2_Refused_out (bodyOf Tryd.f12) (F_R2_Refused_l0 (F_R2_Refused_p0 fu n))
  | 0 => fun _ _ h => by cases h
  | n + 1 => F_R2_Refused_b0_ok fu d' (F_R2_Refused_p0 fu n) (F_R2_Refused_p0_ok fu d' n)
theorem F_R2_Refused_ok (fu : Nat) : (F_R2_Refused_ent (F_R2_Refused fu)).Sound Tryd.prog :=
  Ent.sound_fn (cx := F_R2_Refused_cx fu) (labs := [F_R2_Refused_l0 (F_R2_Refused_p0 fu fu)]) (F_R2_Refused_cxok fu) rfl rfl rfl rfl Tryd.call12 (by kernel_rfl) (fun d' => (labs1 (F_R2_Refused_p0_ok fu d' fu) labs0)) (fun d d' => by kernel_rfl)
/- posthouse/posthouseref1.Bits -/
def F_R1_Bits_out : RS ((List Int)) := .one (α := (List Int)) (.own 0) [(0, .row (.int .i64) 3)] (fun r => ((), (r, ()))) (fun y => y.2.1) (fun _ => rfl)
def F_R1_Bits_hp : List (Nat × BPt) := []
def F_R1_Bits_args : List Pt := [.h (.list .byte)]
def F_R1_Bits_ent (r : (List UInt8) → Option ((List Int))) : Ent := { key := .fn 44, args := F_R1_Bits_args, hp := F_R1_Bits_hp, R := ((List Int)), F := fun d _ => r d.1, out := F_R1_Bits_out }
noncomputable def F_R1_Bits_cx (fu : Nat) : Cx := { P := Tryd.prog, tb := ⟨[], etys, false⟩, fn := Tryd.f44, f := 44, ids := idsB F_R1_Bits_hp, rd := none, tags := [] }
theorem F_R1_Bits_cxok (fu : Nat) : (F_R1_Bits_cx fu).Ok (bodyOf Tryd.f44) := ⟨ents0, Tryd_mixed, Tryd.func44, tags0⟩
def F_R1_Bits_l0 (r : (List UInt8) → Int → (List Int) → Option ((List Int))) : Lab ((List Int)) := ⟨[(0, [0, 0, 0, 0, 1, 0, 1, 1]), (0, [1, 0, 0, 0, 1, 0, 1, 1]), (0, [1, 0, 0, 1, 0, 1, 1]), (2, [0, 1, 0, 1, 1]), (1, [1, 0, 1, 1]), (0, [1, 1, 1])], ⟨29, [(0, .h (.list .byte)), (3, .own 16), (4, .h (.int .i64))], [(16, .row (.int .i64) 3)], 64, []⟩, fun d => r d.1.1 d.1.2.2.1 d.2.1⟩
theorem F_R1_Bits_b0_ok (fu : Nat) (d' : bden F_R1_Bits_hp) (r0 : (List UInt8) → Int → (List Int) → Option ((List Int))) (h0 : LabOk (F_R1_Bits_cx fu) (bput F_R1_Bits_hp d') F_R1_Bits_out (bodyOf Tryd.f44) (F_R1_Bits_l0 r0)) : LabOk (F_R1_Bits_cx fu) (bput F_R1_Bits_hp d') F_R1_Bits_out (bodyOf Tryd.f44) (F_R1_Bits_l0 (F_R1_Bits_b0 fu r0)) :=
  LabOk.of_run (labs := [F_R1_Bits_l0 (r0)]) (F_R1_Bits_cxok fu) (fun _ _ h => idsB_look h) (labs1 h0 labs0) (fun d => by kernel_rfl)
theorem F_R1_Bits_p0_ok (fu : Nat) (d' : bden F_R1_Bits_hp) : ∀ n, LabOk (F_R1_Bits_cx fu) (bput F_R1_Bits_hp d') F_R1_Bits_out (bodyOf Tryd.f44) (F_R1_Bits_l0 (F_R1_Bits_p0 fu n))
  | 0 => fun _ _ h => by cases h
  | n + 1 => F_R1_Bits_b0_ok fu d' (F_R1_Bits_p0 fu n) (F_R1_Bits_p0_ok fu d' n)
theorem F_R1_Bits_ok (fu : Nat) : (F_R1_Bits_ent (F_R1_Bits fu)).Sound Tryd.prog :=
  Ent.sound_fn (cx := F_R1_Bits_cx fu) (labs := [F_R1_Bits_l0 (F_R1_Bits_p0 fu fu)]) (F_R1_Bits_cxok fu) rfl rfl rfl rfl Tryd.call44 (by kernel_rfl) (fun d' => (labs1 (F_R1_Bits_p0_ok fu d' fu) labs0)) (fun d d' => by kernel_rfl)
/- posthouse/posthouseref1.sum -/
def F_R1_sum_out : RS Int := .one (α := Int) (.h (.int .i64)) [] (fun r => (r, ())) (fun y => y.1) (fun _ => rfl)
def F_R1_sum_hp : List (Nat × BPt) := []
def F_R1_sum_args : List Pt := [.h (.list (.int .i64))]
def F_R1_sum_ent (r : (List Int) → Option Int) : Ent := { key := .fn 36, args := F_R1_sum_args, hp := F_R1_sum_hp, R := Int, F := fun d _ => r d.1, out := F_R1_sum_out }
noncomputable def F_R1_sum_cx (fu : Nat) : Cx := { P := Tryd.prog, tb := ⟨[], etys, false⟩, fn := Tryd.f36, f := 36, ids := idsB F_R1_sum_hp, rd := none, tags := [] }
theorem F_R1_sum_cxok (fu : Nat) : (F_R1_sum_cx fu).Ok (bodyOf Tryd.f36) := ⟨ents0, Tryd_mixed, Tryd.func36, tags0⟩
def F_R1_sum_l0 (r : (List Int) → Int → Int → Option Int) : Lab Int := ⟨[(0, [0, 0, 0, 0, 1, 0, 1, 1]), (0, [1, 0, 0, 0, 1, 0, 1, 1]), (0, [1, 0, 0, 1, 0, 1, 1]), (2, [0, 1, 0, 1, 1]), (1, [1, 0, 1, 1]), (0, [1, 1, 1])], ⟨19, [(0, .h (.list (.int .i64))), (3, .h (.int .i64)), (4, .h (.int .i64))], [], 64, []⟩, fun d => r d.1.1 d.1.2.1 d.1.2.2.1⟩
theorem F_R1_sum_b0_ok (fu : Nat) (d' : bden F_R1_sum_hp) (r0 : (List Int) → Int → Int → Option Int) (h0 : LabOk (F_R1_sum_cx fu) (bput F_R1_sum_hp d') F_R1_sum_out (bodyOf Tryd.f36) (F_R1_sum_l0 r0)) : LabOk (F_R1_sum_cx fu) (bput F_R1_sum_hp d') F_R1_sum_out (bodyOf Tryd.f36) (F_R1_sum_l0 (F_R1_sum_b0 fu r0)) :=
  LabOk.of_run (labs := [F_R1_sum_l0 (r0)]) (F_R1_sum_cxok fu) (fun _ _ h => idsB_look h) (labs1 h0 labs0) (fun d => by kernel_rfl)
theorem F_R1_sum_p0_ok (fu : Nat) (d' : bden F_R1_sum_hp) : ∀ n, LabOk (F_R1_sum_cx fu) (bput F_R1_sum_hp d') F_R1_sum_out (bodyOf Tryd.f36) (F_R1_sum_l0 (F_R1_sum_p0 fu n))
  | 0 => fun _ _ h => by cases h
  | n + 1 => F_R1_sum_b0_ok fu d' (F_R1_sum_p0 fu n) (F_R1_sum_p0_ok fu d' n)
theorem F_R1_sum_ok (fu : Nat) : (F_R1_sum_ent (F_R1_sum fu)).Sound Tryd.prog :=
  Ent.sound_fn (cx := F_R1_sum_cx fu) (labs := [F_R1_sum_l0 (F_R1_sum_p0 fu fu)]) (F_R1_sum_cxok fu) rfl rfl rfl rfl Tryd.call36 (by kernel_rfl) (fun d' => (labs1 (F_R1_sum_p0_ok fu d' fu) labs0)) (fun d d' => by kernel_rfl)
/- posthouse/posthouseref1.Chars64 -/
def F_R1_Chars64_out : RS ((List UInt8)) := .one (α := (List UInt8)) (.h .str) [] (fun r => (r, ())) (fun y => y.1) (fun _ => rfl)
def F_R1_Chars64_hp : List (Nat × BPt) := []
def F_R1_Chars64_args : List Pt := [.h (.list .byte)]
def F_R1_Chars64_ent (r : (List UInt8) → Option ((List UInt8))) : Ent := { key := .fn 32, args := F_R1_Chars64_args, hp := F_R1_Chars64_hp, R := ((List UInt8)), F := fun d _ => r d.1, out := F_R1_Chars64_out }
noncomputable def F_R1_Chars64_cx (fu : Nat) : Cx := { P := Tryd.prog, tb := ⟨[F_R1_Bits_ent (F_R1_Bits fu), F_R1_sum_ent (F_R1_sum fu)], etys, false⟩, fn := Tryd.f32, f := 32, ids := idsB F_R1_Chars64_hp, rd := none, tags := [] }
theorem F_R1_Chars64_cxok (fu : Nat) : (F_R1_Chars64_cx fu).Ok (bodyOf Tryd.f32) := ⟨(ents1 (F_R1_Bits_ok fu) (ents1 (F_R1_sum_ok fu) ents0)), Tryd_mixed, Tryd.func32, tags0⟩
def F_R1_Chars64_l2 (r : (List UInt8) → Option ((List UInt8))) : Lab ((List UInt8)) := ⟨[(0, [0, 0, 0, 0, 0, 1, 1, 1, 1, 1]), (0, [1, 0, 0, 0, 0, 1, 1, 1, 1, 1]), (0, [1, 0, 0, 0, 1, 1, 1, 1, 1]), (2, [0, 0, 1, 1, 1, 1, 1]), (1, [0, 1, 1, 1, 1, 1]), (0, [1, 1, 1, 1, 1, 1])], ⟨41, [(4, .h .str)], [], 64, []⟩, fun d => r d.1.1⟩
def F_R1_Chars64_l1 (r : (List Int) → (List UInt8) → Int → Option ((List UInt8))) : Lab ((List UInt8)) := ⟨[(0, [0, 0, 0, 0, 1, 0, 1, 1, 1, 1]), (0, [1, 0, 0, 0, 1, 0, 1, 1, 1, 1]), (0, [1, 0, 0, 1, 0, 1, 1, 1, 1]), (2, [0, 1, 0, 1, 1, 1, 1]), (1, [1, 0, 1, 1, 1, 1]), (0, [1, 1, 1, 1, 1])], ⟨41, [(3, .h (.list (.int .i64))), (4, .h .str), (5, .h (.int .i64))], [], 64, []⟩, fun d => r d.1.1 d.1.2.1 d.1.2.2.1⟩
def F_R1_Chars64_l0 (r : (List Int) → Option ((List UInt8))) : Lab ((List UInt8)) := ⟨[(0, [0, 0, 0, 0, 0, 1, 1]), (0, [1, 0, 0, 0, 0, 1, 1]), (0, [1, 0, 0, 0, 1, 1]), (2, [0, 0, 1, 1]), (1, [0, 1, 1]), (0, [1, 1, 1])], ⟨41, [(3, .own 16)], [(16, .row (.int .i64) 3)], 64, []⟩, fun d => r d.2.1⟩
theorem F_R1_Chars64_b2_ok (fu : Nat) (d' : bden F_R1_Chars64_hp) (r2 : (List UInt8) → Option ((List UInt8))) (h2 : LabOk (F_R1_Chars64_cx fu) (bput F_R1_Chars64_hp d') F_R1_Chars64_out (bodyOf Tryd.f32) (F_R1_Chars64_l2 r2)) : LabOk (F_R1_Chars64_cx fu) (bput F_R1_Chars64_hp d') F_R1_Chars64_out (bodyOf Tryd.f32) (F_R1_Chars64_l2 (F_R1_Chars64_b2 fu r2)) :=
  LabOk.of_run (labs := [F_R1_Chars64_l2 (r2)]) (F_R1_Chars64_cxok fu) (fun _ _ h => idsB_look h) (labs1 h2 labs0) (fun d => by kernel_rfl)
theorem F_R1_Chars64_p2_ok (fu : Nat) (d' : bden F_R1_Chars64_hp) : ∀ n, LabOk (F_R1_Chars64_cx fu) (bput F_R1_Chars64_hp d') F_R1_Chars64_out (bodyOf Tryd.f32) (F_R1_Chars64_l2 (F_R1_Chars64_p2 fu n))
  | 0 => fun _ _ h => by cases h
  | n + 1 => F_R1_Chars64_b2_ok fu d' (F_R1_Chars64_p2 fu n) (F_R1_Chars64_p2_ok fu d' n)
theorem F_R1_Chars64_b1_ok (fu : Nat) (d' : bden F_R1_Chars64_hp) (r1 : (List Int) → (List UInt8) → Int → Option ((List UInt8))) (h1 : LabOk (F_R1_Chars64_cx fu) (bput F_R1_Chars64_hp d') F_R1_Chars64_out (bodyOf Tryd.f32) (F_R1_Chars64_l1 r1)) : LabOk (F_R1_Chars64_cx fu) (bput F_R1_Chars64_hp d') F_R1_Chars64_out (bodyOf Tryd.f32) (F_R1_Chars64_l1 (F_R1_Chars64_b1 fu r1)) :=
  LabOk.of_run (labs := [F_R1_Chars64_l1 (r1), F_R1_Chars64_l2 (F_R1_Chars64_p2 fu fu)]) (F_R1_Chars64_cxok fu) (fun _ _ h => idsB_look h) (labs1 h1 (labs1 (F_R1_Chars64_p2_ok fu d' fu) labs0)) (fun d => by kernel_rfl)
theorem F_R1_Chars64_p1_ok (fu : Nat) (d' : bden F_R1_Chars64_hp) : ∀ n, LabOk (F_R1_Chars64_cx fu) (bput F_R1_Chars64_hp d') F_R1_Chars64_out (bodyOf Tryd.f32) (F_R1_Chars64_l1 (F_R1_Chars64_p1 fu n))
  | 0 => fun _ _ h => by cases h
  | n + 1 => F_R1_Chars64_b1_ok fu d' (F_R1_Chars64_p1 fu n) (F_R1_Chars64_p1_ok fu d' n)
theorem F_R1_Chars64_b0_ok (fu : Nat) (d' : bden F_R1_Chars64_hp) (r0 : (List Int) → Option ((List UInt8))) (h0 : LabOk (F_R1_Chars64_cx fu) (bput F_R1_Chars64_hp d') F_R1_Chars64_out (bodyOf Tryd.f32) (F_R1_Chars64_l0 r0)) : LabOk (F_R1_Chars64_cx fu) (bput F_R1_Chars64_hp d') F_R1_Chars64_out (bodyOf Tryd.f32) (F_R1_Chars64_l0 (F_R1_Chars64_b0 fu r0)) :=
  LabOk.of_run (labs := [F_R1_Chars64_l0 (r0), F_R1_Chars64_l1 (F_R1_Chars64_p1 fu fu)]) (F_R1_Chars64_cxok fu) (fun _ _ h => idsB_look h) (labs1 h0 (labs1 (F_R1_Chars64_p1_ok fu d' fu) labs0)) (fun d => by kernel_rfl)
theorem F_R1_Chars64_p0_ok (fu : Nat) (d' : bden F_R1_Chars64_hp) : ∀ n, LabOk (F_R1_Chars64_cx fu) (bput F_R1_Chars64_hp d') F_R1_Chars64_out (bodyOf Tryd.f32) (F_R1_Chars64_l0 (F_R1_Chars64_p0 fu n))
  | 0 => fun _ _ h => by cases h
  | n + 1 => F_R1_Chars64_b0_ok fu d' (F_R1_Chars64_p0 fu n) (F_R1_Chars64_p0_ok fu d' n)
theorem F_R1_Chars64_ok (fu : Nat) : (F_R1_Chars64_ent (F_R1_Chars64 fu)).Sound Tryd.prog :=
  Ent.sound_fn (cx := F_R1_Chars64_cx fu) (labs := [F_R1_Chars64_l0 (F_R1_Chars64_p0 fu fu)]) (F_R1_Chars64_cxok fu) rfl rfl rfl rfl Tryd.call32 (by kernel_rfl) (fun d' => (labs1 (F_R1_Chars64_p0_ok fu d' fu) labs0)) (fun d d' => by kernel_rfl)
/- posthouse/posthouseref1.Lines64 -/
def F_R1_Lines64_out : RS ((List UInt8)) := .one (α := (List UInt8)) (.own 0) [(0, .row .byte 5)] (fun r => ((), (r, ()))) (fun y => y.2.1) (fun _ => rfl)
def F_R1_Lines64_hp : List (Nat × BPt) := []
def F_R1_Lines64_args : List Pt := [.h (.list .byte)]
def F_R1_Lines64_ent (r : (List UInt8) → Option ((List UInt8))) : Ent := { key := .fn 19, args := F_R1_Lines64_args, hp := F_R1_Lines64_hp, R := ((List UInt8)), F := fun d _ => r d.1, out := F_R1_Lines64_out }
noncomputable def F_R1_Lines64_cx (fu : Nat) : Cx := { P := Tryd.prog, tb := ⟨[F_R1_Chars64_ent (F_R1_Chars64 fu)], etys, false⟩, fn := Tryd.f19, f := 19, ids := idsB F_R1_Lines64_hp, rd := none, tags := [] }
theorem F_R1_Lines64_cxok (fu : Nat) : (F_R1_Lines64_cx fu).Ok (bodyOf Tryd.f19) := ⟨(ents1 (F_R1_Chars64_ok fu) ents0), Tryd_mixed, Tryd.func19, tags0⟩
def F_R1_Lines64_l0 (r : (List UInt8) → (List UInt8) → Option ((List UInt8))) : Lab ((List UInt8)) := ⟨[(0, [0, 0, 0, 0, 0, 1, 1, 1]), (0, [1, 0, 0, 0, 0, 1, 1, 1]), (0, [1, 0, 0, 0, 1, 1, 1]), (2, [0, 0, 1, 1, 1]), (1, [0, 1, 1, 1]), (0, [1, 1, 1, 1])], ⟨26, [(3, .h .str), (4, .own 16)], [(16, .row .byte 5)], 64, []⟩, fun d => r d.1.1 d.2.1⟩
theorem F_R1_Lines64_b0_ok (fu : Nat) (d' : bden F_R1_Lines64_hp) (r0 : (List UInt8) → (List UInt8) → Option ((List UInt8))) (h0 : LabOk (F_R1_Lines64_cx fu) (bput F_R1_Lines64_hp d') F_R1_Lines64_out (bodyOf Tryd.f19) (F_R1_Lines64_l0 r0)) : LabOk (F_R1_Lines64_cx fu) (bput F_R1_Lines64_hp d') F_R1_Lines64_out (bodyOf Tryd.f19) (F_R1_Lines64_l0 (F_R1_Lines64_b0 fu r0)) :=
  LabOk.of_run (labs := [F_R1_Lines64_l0 (r0)]) (F_R1_Lines64_cxok fu) (fun _ _ h => idsB_look h) (labs1 h0 labs0) (fun d => by kernel_rfl)
theorem F_R1_Lines64_p0_ok (fu : Nat) (d' : bden F_R1_Lines64_hp) : ∀ n, LabOk (F_R1_Lines64_cx fu) (bput F_R1_Lines64_hp d') F_R1_Lines64_out (bodyOf Tryd.f19) (F_R1_Lines64_l0 (F_R1_Lines64_p0 fu n))
  | 0 => fun _ _ h => by cases h
  | n + 1 => F_R1_Lines64_b0_ok fu d' (F_R1_Lines64_p0 fu n) (F_R1_Lines64_p0_ok fu d' n)
theorem F_R1_Lines64_ok (fu : Nat) : (F_R1_Lines64_ent (F_R1_Lines64 fu)).Sound Tryd.prog :=
  Ent.sound_fn (cx := F_R1_Lines64_cx fu) (labs := [F_R1_Lines64_l0 (F_R1_Lines64_p0 fu fu)]) (F_R1_Lines64_cxok fu) rfl rfl rfl rfl Tryd.call19 (by kernel_rfl) (fun d' => (labs1 (F_R1_Lines64_p0_ok fu d' fu) labs0)) (fun d d' => by kernel_rfl)
/- posthouse/posthouseref1.Blank -/
def F_R1_Blank_out : RS Bool := .one (α := Bool) (.h .bool) [] (fun r => (r, ())) (fun y => y.1) (fun _ => rfl)
def F_R1_Blank_hp : List (Nat × BPt) := []
def F_R1_Blank_args : List Pt := [.h .byte]
def F_R1_Blank_ent (r : UInt8 → Option Bool) : Ent := { key := .fn 37, args := F_R1_Blank_args, hp := F_R1_Blank_hp, R := Bool, F := fun d _ => r d.1, out := F_R1_Blank_out }
noncomputable def F_R1_Blank_cx : Cx := { P := Tryd.prog, tb := ⟨[], etys, false⟩, fn := Tryd.f37, f := 37, ids := idsB F_R1_Blank_hp, rd := none, tags := [] }
theorem F_R1_Blank_cxok : (F_R1_Blank_cx).Ok (bodyOf Tryd.f37) := ⟨ents0, Tryd_mixed, Tryd.func37, tags0⟩
theorem F_R1_Blank_ok : (F_R1_Blank_ent (F_R1_Blank)).Sound Tryd.prog :=
  Ent.sound_fn (cx := F_R1_Blank_cx) (labs := []) (F_R1_Blank_cxok) rfl rfl rfl rfl Tryd.call37 (by kernel_rfl) (fun _ => labs0) (fun d d' => by kernel_rfl)
/- posthouse/posthouseref1.Two -/
def F_R1_Two_out : RS ((List UInt8)) := .one (α := (List UInt8)) (.h .str) [] (fun r => (r, ())) (fun y => y.1) (fun _ => rfl)
def F_R1_Two_hp : List (Nat × BPt) := []
def F_R1_Two_args : List Pt := [.h .byte]
def F_R1_Two_ent (r : UInt8 → Option ((List UInt8))) : Ent := { key := .fn 43, args := F_R1_Two_args, hp := F_R1_Two_hp, R := ((List UInt8)), F := fun d _ => r d.1, out := F_R1_Two_out }
noncomputable def F_R1_Two_cx : Cx := { P := Tryd.prog, tb := ⟨[], etys, false⟩, fn := Tryd.f43, f := 43, ids := idsB F_R1_Two_hp, rd := none, tags := [] }
theorem F_R1_Two_cxok : (F_R1_Two_cx).Ok (bodyOf Tryd.f43) := ⟨ents0, Tryd_mixed, Tryd.func43, tags0⟩
theorem F_R1_Two_ok : (F_R1_Two_ent (F_R1_Two)).Sound Tryd.prog :=
  Ent.sound_fn (cx := F_R1_Two_cx) (labs := []) (F_R1_Two_cxok) rfl rfl rfl rfl Tryd.call43 (by kernel_rfl) (fun _ => labs0) (fun d d' => by kernel_rfl)
/- posthouse/posthouseref1.LineUnits -/
def F_R1_LineUnits_out : RS ((List (List UInt8))) := .one (α := (List (List UInt8))) (.own 0) [(0, .row .str 9)] (fun r => ((), (r, ()))) (fun y => y.2.1) (fun _ => rfl)
def F_R1_LineUnits_hp : List (Nat × BPt) := []
def F_R1_LineUnits_args : List Pt := [.h (.list .byte)]
def F_R1_LineUnits_ent (r : (List UInt8) → Option ((List (List UInt8)))) : Ent := { key := .fn 31, args := F_R1_LineUnits_args, hp := F_R1_LineUnits_hp, R := ((List (List UInt8))), F := fun d _ => r d.1, out := F_R1_LineUnits_out }
noncomputable def F_R1_LineUnits_cx (fu : Nat) : Cx := { P := Tryd.prog, tb := ⟨[F_R1_In_ent F_R1_In, F_R1_Blank_ent F_R1_Blank, F_R1_Two_ent F_R1_Two], etys, false⟩, fn := Tryd.f31, f := 31, ids := idsB F_R1_LineUnits_hp, rd := none, tags := [] }
theorem F_R1_LineUnits_cxok (fu : Nat) : (F_R1_LineUnits_cx fu).Ok (bodyOf Tryd.f31) := ⟨(ents1 F_R1_In_ok (ents1 F_R1_Blank_ok (ents1 F_R1_Two_ok ents0))), Tryd_mixed, Tryd.func31, tags0⟩
def F_R1_LineUnits_l1 (r : (List UInt8) → Int → UInt8 → Bool → (List (List UInt8)) → Option ((List (List UInt8)))) : Lab ((List (List UInt8))) := ⟨[(0, [1, 1, 0, 0, 1, 0, 0, 1, 0, 1, 1]), (1, [0, 1, 0, 0, 1, 0, 1, 1]), (0, [1, 1, 0, 0, 1, 0, 1, 1]), (2, [0, 1, 0, 1, 1]), (1, [1, 0, 1, 1]), (0, [1, 1, 1])], ⟨47, [(0, .h (.list .byte)), (3, .own 16), (4, .h (.int .i64)), (5, .h .byte), (33, .h .bool)], [(16, .row .str 9)], 64, []⟩, fun d => r d.1.1 d.1.2.2.1 d.1.2.2.2.1 d.1.2.2.2.2.1 d.2.1⟩
def F_R1_LineUnits_l0 (r : (List UInt8) → Int → (List (List UInt8)) → Option ((List (List UInt8)))) : Lab ((List (List UInt8))) := ⟨[(0, [0, 0, 0, 0, 1, 0, 1, 1]), (0, [1, 0, 0, 0, 1, 0, 1, 1]), (0, [1, 0, 0, 1, 0, 1, 1]), (2, [0, 1, 0, 1, 1]), (1, [1, 0, 1, 1]), (0, [1, 1, 1])], ⟨47, [(0, .h (.list .byte)), (3, .own 16), (4, .h (.int .i64))], [(16, .row .str 9)], 64, []⟩, fun d => r d.1.1 d.1.2.2.1 d.2.1⟩
theorem F_R1_LineUnits_p1_ok (fu : Nat) (d' : bden F_R1_LineUnits_hp) (r0 : (List UInt8) → Int → (List (List UInt8)) → Option ((List (List UInt8)))) (h0 : LabOk (F_R1_LineUnits_cx fu) (bput F_R1_LineUnits_hp d') F_R1_LineUnits_out (bodyOf Tryd.f31) (F_R1_LineUnits_l0 r0)) : LabOk (F_R1_LineUnits_cx fu) (bput F_R1_LineUnits_hp d') F_R1_LineUnits_out (bodyOf Tryd.f31) (F_R1_LineUnits_l1 (F_R1_LineUnits_p1 fu r0)) :=
  LabOk.of_run (labs := [F_R1_LineUnits_l0 (r0)]) (F_R1_LineUnits_cxok fu) (fun _ _ h => idsB_look h) (labs1 h0 labs0) (fun d => by kernel_rfl)
theorem F_R1_LineUnits_b0_ok (fu : Nat) (d' : bden F_R1_LineUnits_hp) (r0 : (List UInt8) → Int → (List (List UInt8)) → Option ((List (List UInt8)))) (h0 : LabOk (F_R1_LineUnits_cx fu) (bput F_R1_LineUnits_hp d') F_R1_LineUnits_out (bodyOf Tryd.f31) (F_R1_LineUnits_l0 r0)) : LabOk (F_R1_LineUnits_cx fu) (bput F_R1_LineUnits_hp d') F_R1_LineUnits_out (bodyOf Tryd.f31) (F_R1_LineUnits_l0 (F_R1_LineUnits_b0 fu r0)) :=
  LabOk.of_run (labs := [F_R1_LineUnits_l1 (F_R1_LineUnits_p1 fu r0)]) (F_R1_LineUnits_cxok fu) (fun _ _ h => idsB_look h) (labs1 (F_R1_LineUnits_p1_ok fu d' r0 h0) labs0) (fun d => by kernel_rfl)
theorem F_R1_LineUnits_p0_ok (fu : Nat) (d' : bden F_R1_LineUnits_hp) : ∀ n, LabOk (F_R1_LineUnits_cx fu) (bput F_R1_LineUnits_hp d') F_R1_LineUnits_out (bodyOf Tryd.f31) (F_R1_LineUnits_l0 (F_R1_LineUnits_p0 fu n))
  | 0 => fun _ _ h => by cases h
  | n + 1 => F_R1_LineUnits_b0_ok fu d' (F_R1_LineUnits_p0 fu n) (F_R1_LineUnits_p0_ok fu d' n)
theorem F_R1_LineUnits_ok (fu : Nat) : (F_R1_LineUnits_ent (F_R1_LineUnits fu)).Sound Tryd.prog :=
  Ent.sound_fn (cx := F_R1_LineUnits_cx fu) (labs := [F_R1_LineUnits_l0 (F_R1_LineUnits_p0 fu fu)]) (F_R1_LineUnits_cxok fu) rfl rfl rfl rfl Tryd.call31 (by kernel_rfl) (fun d' => (labs1 (F_R1_LineUnits_p0_ok fu d' fu) labs0)) (fun d d' => by kernel_rfl)
end Go.Sym
