/- What the claim rests on, part 5: gathered texts. -/
import Derived.Shelf.LaysC
import Derived.Shelf.LaysM
import Derived.Shelf.SlGeneric
import Derived.Ground.NamesProg
import Derived.Test.YtndokpfbopbeeaaGreatDoorProg
import Derived.Below
import Derived.Tactics
import Derived.Tactics2
import Derived.Laws.AppendOwn
import Derived.Shelf.Strconv.Itoa4
import Derived.Shelf.Bytes.SlIndexWhole
import Derived.Shelf.SlicesE.Clone
import Derived.Shelf.Strings.Repeat
import Derived.Test.YtndokpfbopbeeaaGreatDoorRows
import Derived.Test.YtndokpfbopbeeaaGreatDoorSyA4
/- Plain functions that the Go functions compute: printed by a program out of the translation. -/
namespace Go.Sym
set_option linter.unusedVariables false
def tab1 : List Int := [1, 10, 100, 1000, 10000, 100000, 1000000, 10000000, 100000000, 1000000000, 10000000000, 100000000000, 1000000000000, 10000000000000, 100000000000000, 1000000000000000, 10000000000000000, 100000000000000000, 1000000000000000000, 10000000000000000000]
def tab2 : List UInt8 := [240, 240, 240, 240, 240, 240, 240, 240, 240, 240, 240, 240, 240, 240, 240, 240, 240, 240, 240, 240, 240, 240, 240, 240, 240, 240, 240, 240, 240, 240, 240, 240, 240, 240, 240, 240, 240, 240, 240, 240, 240, 240, 240, 240, 240, 240, 240, 240, 240, 240, 240, 240, 240, 240, 240, 240, 240, 240, 240, 240, 240, 240, 240, 240, 240, 240, 240, 240, 240, 240, 240, 240, 240, 240, 240, 240, 240, 240, 240, 240, 240, 240, 240, 240, 240, 240, 240, 240, 240, 240, 240, 240, 240, 240, 240, 240, 240, 240, 240, 240, 240, 240, 240, 240, 240, 240, 240, 240, 240, 240, 240, 240, 240, 240, 240, 240, 240, 240, 240, 240, 240, 240, 240, 240, 240, 240, 240, 240, 241, 241, 241, 241, 241, 241, 241, 241, 241, 241, 241, 241, 241, 241, 241, 241, 241, 241, 241, 241, 241, 241, 241, 241, 241, 241, 241, 241, 241, 241, 241, 241, 241, 241, 241, 241, 241, 241, 241, 241, 241, 241, 241, 241, 241, 241, 241, 241, 241, 241, 241, 241, 241, 241, 241, 241, 241, 241, 241, 241, 241, 241, 241, 241, 241, 241, 2, 2, 2, 2, 2, 2, 2, 2, 2, 2, 2, 2, 2, 2, 2, 2, 2, 2, 2, 2, 2, 2, 2, 2, 2, 2, 2, 2, 2, 2, 19, 3, 3, 3, 3, 3, 3, 3, 3, 3, 3, 3, 3, 35, 3, 3, 52, 4, 4, 4, 68, 241, 241, 241, 241, 241, 241, 241, 241, 241, 241, 241]
def tab3 : List (UInt8 × UInt8) := [(128, 191), (160, 191), (128, 159), (144, 191), (128, 143), (0, 0), (0, 0), (0, 0), (0, 0), (0, 0), (0, 0), (0, 0), (0, 0), (0, 0), (0, 0), (0, 0)]
/- posthouse/basic.Fault -/
def F_basic_Fault (p0 : Int) (p1 : Int) : Option ((Int × Int)) := some (p0, p1)
/- posthouse/fold.name$1 -/
def F_fold_name_1 (p0 : UInt8) : Option Bool := bif decide ((33 : UInt8) ≤ p0) then bif decide (p0 ≤ (126 : UInt8)) then some (p0 != (58 : UInt8)) else some false else some false
/- posthouse/basic.All -/
abbrev x2t0 : Type := Bs → Int → Int → Option Bool
def F_basic_All_b0 (fu : Nat) (r0 : x2t0) : x2t0 := fun s0 s7 s8 => bif decide (s8 < s7) then (idx s0 s8).bind fun c1 => (F_fold_name_1 c1).bind fun x2 => bif !x2 then some false else r0 s0 s7 (w64 (s8 + (1 : Int))) else some true
def F_basic_All_p0 (fu : Nat) : Nat → x2t0 | 0 => fun _ _ _ => none | n + 1 => F_basic_All_b0 fu (F_basic_All_p0 fu n)
def F_basic_All (fu : Nat) (p0 : Bs) : Option Bool := F_basic_All_p0 fu fu p0 (List.length p0 : Int) (0 : Int)
/- posthouse/fold.name -/
def F_fold_name (fu : Nat) (p0 : Bs) : Option Bool := bif !(p0 == ([] : Bs)) then bif decide ((List.length p0 : Int) ≤ (60 : Int)) then (F_basic_All fu p0).bind fun x1 => some x1 else some false else some false
/- strings.shouldUseASCIISet -/
def F_strings_shouldUseASCIISet (p0 : Int) : Option Bool := some (decide ((8 : Int) < p0))
/- strings.makeASCIISet -/
abbrev x5t0 : Type := Bs → Int → (List Bool) → Option ((List Bool) × Bool)
def F_strings_makeASCIISet_b0 (fu : Nat) (r0 : x5t0) : x5t0 := fun s0 s4 m32 => bif decide (s4 < (List.length s0 : Int)) then (idx s0 s4).bind fun c1 => bif decide ((128 : UInt8) ≤ c1) then bif decide (List.length m32 = 256) then bif decide (List.length m32 = List.length m32) && decide (List.length m32 = 256) then bif decide (List.length m32 = 256) && (true && true) then some (m32, false) else none else none else none else (m32[c1.toNat]?).bind fun y2 => r0 s0 (w64 (s4 + (1 : Int))) (List.set m32 c1.toNat true) else bif decide (List.length m32 = 256) then bif decide (List.length m32 = List.length m32) && decide (List.length m32 = 256) then bif decide (List.length m32 = 256) && (true && true) then some (m32, true) else none else none else none
def F_strings_makeASCIISet_p0 (fu : Nat) : Nat → x5t0 | 0 => fun _ _ _ => none | n + 1 => F_strings_makeASCIISet_b0 fu (F_strings_makeASCIISet_p0 fu n)
def F_strings_makeASCIISet (fu : Nat) (p0 : Bs) : Option ((List Bool) × Bool) := F_strings_makeASCIISet_p0 fu fu p0 (0 : Int) (List.replicate 256 false)
/- internal/stringslite.IndexByte -/
def F_internal_stringslite_IndexByte (p0 : Bs) (p1 : UInt8) : Option Int := (F_bytealg_IndexByte p0 p1).bind fun x1 => some x1
/- strings.IndexByte -/
def F_strings_IndexByte (p0 : Bs) (p1 : UInt8) : Option Int := (F_internal_stringslite_IndexByte p0 p1).bind fun x1 => some x1
/- unicode/utf8.ValidRune -/
def F_unicode_utf8_ValidRune (p0 : Int) : Option Bool := bif decide ((0 : Int) ≤ p0) then bif decide (p0 < (55296 : Int)) then some true else bif decide ((57343 : Int) < p0) then bif decide (p0 ≤ (1114111 : Int)) then some true else some false else some false else bif decide ((57343 : Int) < p0) then bif decide (p0 ≤ (1114111 : Int)) then some true else some false else some false
/- strings.IndexRune -/
abbrev x9t1 : Type := Bs → Nat → Option Int
abbrev x9t4 : Type := Bs → Bs → Int → Int → Int → Option Int
abbrev x9t3 : Type := Bs → Bs → Int → Int → Option Int
abbrev x9t2 : Type := Bs → Bs → Int → Int → Option Int
abbrev x9t0 : Type := Bs → Int → Bool → Option Int
def F_strings_IndexRune_b1 (fu : Nat) (r1 : x9t1) : x9t1 := fun m32_0 m32_1 => bif Nat.blt m32_1 (List.length m32_0) then bif (((rdec m32_0 m32_1).1 : Nat) : Int) == (65533 : Int) then some ((m32_1 : Nat) : Int) else r1 m32_0 (m32_1 + (rdec m32_0 m32_1).2) else some (-1 : Int)
def F_strings_IndexRune_p1 (fu : Nat) : Nat → x9t1 | 0 => fun _ _ => none | n + 1 => F_strings_IndexRune_b1 fu (F_strings_IndexRune_p1 fu n)
def F_strings_IndexRune_b4 (fu : Nat) (r2 : x9t2) (r4 : x9t4) : x9t4 := fun s0 s7 s8 s9 s12 => bif decide (s12 < (List.length s7 : Int)) then (idx s0 (w64 (s9 - s12))).bind fun c1 => (idx s7 (w64 (s8 - s12))).bind fun c2 => bif c1 != c2 then none else r4 s0 s7 s8 s9 (w64 (s12 + (1 : Int))) else some (w64 (s9 - s8))
def F_strings_IndexRune_p4 (fu : Nat) (r2 : x9t2) : Nat → x9t4 | 0 => fun _ _ _ _ _ => none | n + 1 => F_strings_IndexRune_b4 fu r2 (F_strings_IndexRune_p4 fu r2 n)
def F_strings_IndexRune_p3 (fu : Nat) (r2 : x9t2) : x9t3 := fun s0 s7 s8 s9 => F_strings_IndexRune_p4 fu r2 fu s0 s7 s8 s9 (1 : Int)
def F_strings_IndexRune_b2 (fu : Nat) (r2 : x9t2) : x9t2 := fun s0 s7 s8 s9 => bif decide (s9 < (List.length s0 : Int)) then (idx s0 s9).bind fun c1 => (idx s7 s8).bind fun c2 => bif c1 != c2 then bif decide (0 ≤ w64 (s9 + (1 : Int)) ∧ w64 (s9 + (1 : Int)) ≤ (List.length s0 : Int)) then (idx s7 s8).bind fun c3 => (F_strings_IndexByte (List.drop (w64 (s9 + (1 : Int))).toNat s0) c3).bind fun x4 => bif decide (x4 < (0 : Int)) then some (-1 : Int) else F_strings_IndexRune_p3 fu r2 s0 s7 s8 (w64 (s9 + (w64 (x4 + (1 : Int))))) else none else F_strings_IndexRune_p3 fu r2 s0 s7 s8 s9 else some (-1 : Int)
def F_strings_IndexRune_p2 (fu : Nat) : Nat → x9t2 | 0 => fun _ _ _ _ => none | n + 1 => F_strings_IndexRune_b2 fu (F_strings_IndexRune_p2 fu n)
def F_strings_IndexRune_p0 (fu : Nat) : x9t0 := fun s0 s1 s160 => bif s160 then (F_strings_IndexByte s0 (toU8 s1)).bind fun x1 => some x1 else bif s1 == (65533 : Int) then F_strings_IndexRune_p1 fu fu s0 0 else (F_unicode_utf8_ValidRune s1).bind fun x2 => bif !x2 then some (-1 : Int) else F_strings_IndexRune_p2 fu fu s0 (renc s1) (w64 ((List.length (renc s1) : Int) - (1 : Int))) (w64 ((List.length (renc s1) : Int) - (1 : Int)))
def F_strings_IndexRune (fu : Nat) (p0 : Bs) (p1 : Int) : Option Int := bif decide ((0 : Int) ≤ p1) then F_strings_IndexRune_p0 fu p0 p1 (decide (p1 < (128 : Int))) else F_strings_IndexRune_p0 fu p0 p1 false
/- (*strings.asciiSet).contains -/
def F_strings_asciiSet_contains (p0 : UInt8) (p1 : List Bool) : Option (Bool × (List Bool)) := (p1[p0.toNat]?).bind fun y1 => some (y1, p1)
/- strings.IndexAny -/
abbrev x11t0 : Type := Bs → Int → Option Int
abbrev x11t1 : Type := Bs → Int → (List Bool) → Option Int
abbrev x11t3 : Type := Bs → Bs → Nat → Option Int
abbrev x11t2 : Type := Bs → Bs → Option Int
def F_strings_IndexAny_p0 (fu : Nat) : x11t0 := fun s0 s5 => (F_strings_IndexRune fu s0 s5).bind fun x1 => some x1
def F_strings_IndexAny_b1 (fu : Nat) (r1 : x11t1) : x11t1 := fun s0 s8 m32 => bif decide (s8 < (List.length s0 : Int)) then (idx s0 s8).bind fun c1 => (F_strings_asciiSet_contains c1 m32).bind fun x2 => bif x2.1 then some s8 else r1 s0 (w64 (s8 + (1 : Int))) x2.2 else some (-1 : Int)
def F_strings_IndexAny_p1 (fu : Nat) : Nat → x11t1 | 0 => fun _ _ _ => none | n + 1 => F_strings_IndexAny_b1 fu (F_strings_IndexAny_p1 fu n)
def F_strings_IndexAny_b3 (fu : Nat) (r3 : x11t3) : x11t3 := fun s1 m32_0 m32_1 => bif Nat.blt m32_1 (List.length m32_0) then (F_strings_IndexRune fu s1 (((rdec m32_0 m32_1).1 : Nat) : Int)).bind fun x1 => bif decide ((0 : Int) ≤ x1) then some ((m32_1 : Nat) : Int) else r3 s1 m32_0 (m32_1 + (rdec m32_0 m32_1).2) else some (-1 : Int)
def F_strings_IndexAny_p3 (fu : Nat) : Nat → x11t3 | 0 => fun _ _ _ => none | n + 1 => F_strings_IndexAny_b3 fu (F_strings_IndexAny_p3 fu n)
def F_strings_IndexAny_p2 (fu : Nat) : x11t2 := fun s0 s1 => F_strings_IndexAny_p3 fu fu s1 s0 0
def F_strings_IndexAny (fu : Nat) (p0 : Bs) (p1 : Bs) : Option Int := bif p1 == ([] : Bs) then some (-1 : Int) else bif (List.length p1 : Int) == (1 : Int) then (idx p1 (0 : Int)).bind fun c1 => bif decide ((128 : Int) ≤ (c1.toNat : Int)) then F_strings_IndexAny_p0 fu p0 (65533 : Int) else F_strings_IndexAny_p0 fu p0 (c1.toNat : Int) else (F_strings_shouldUseASCIISet (List.length p0 : Int)).bind fun x2 => bif x2 then (F_strings_makeASCIISet fu p1).bind fun x3 => bif decide (List.length x3.1 = List.length (List.replicate 256 false)) && decide (List.length x3.1 = 256) then bif x3.2 then F_strings_IndexAny_p1 fu fu p0 (0 : Int) x3.1 else F_strings_IndexAny_p2 fu p0 p1 else none else F_strings_IndexAny_p2 fu p0 p1
/- strings.ContainsAny -/
def F_strings_ContainsAny (fu : Nat) (p0 : Bs) (p1 : Bs) : Option Bool := (F_strings_IndexAny fu p0 p1).bind fun x1 => some (decide ((0 : Int) ≤ x1))
/- posthouse/fold.ends -/
def F_fold_ends (fu : Nat) (p0 : Bs) : Option Bool := (F_strings_ContainsAny fu p0 ([13, 10, 0] : Bs)).bind fun x1 => some x1
/- posthouse/basic.Blank -/
def F_basic_Blank (p0 : UInt8) : Option Bool := bif p0 == (32 : UInt8) then some true else some (p0 == (9 : UInt8))
/- posthouse/fold.value -/
def F_fold_value (fu : Nat) (p0 : Bs) : Option Bool := (F_fold_ends fu p0).bind fun x1 => bif !x1 then bif p0 == ([] : Bs) then some true else (idx p0 (0 : Int)).bind fun c2 => (F_basic_Blank c2).bind fun x3 => bif !x3 then (idx p0 (w64 ((List.length p0 : Int) - (1 : Int)))).bind fun c4 => (F_basic_Blank c4).bind fun x5 => some (!x5) else some false else some false
/- posthouse/fold.point -/
abbrev x16t1 : Type := Bs → Int → Int → Bool → Option Int
abbrev x16t0 : Type := Bs → Int → Int → Option Int
def F_fold_point_p1 (fu : Nat) (r0 : x16t0) : x16t1 := fun s0 s5 s6 s26 => bif s26 then r0 s0 s5 (w64 (s6 + (1 : Int))) else bif decide ((0 : Int) < s5) then bif decide ((78 : Int) < s6) then some s5 else r0 s0 s6 (w64 (s6 + (1 : Int))) else r0 s0 s6 (w64 (s6 + (1 : Int)))
def F_fold_point_b0 (fu : Nat) (r0 : x16t0) : x16t0 := fun s0 s5 s6 => bif decide (s6 < (List.length s0 : Int)) then (idx s0 s6).bind fun c1 => (F_basic_Blank c1).bind fun x2 => bif !x2 then F_fold_point_p1 fu r0 s0 s5 s6 true else (idx s0 (w64 (s6 - (1 : Int)))).bind fun c3 => (F_basic_Blank c3).bind fun x4 => F_fold_point_p1 fu r0 s0 s5 s6 x4 else some s5
def F_fold_point_p0 (fu : Nat) : Nat → x16t0 | 0 => fun _ _ _ => none | n + 1 => F_fold_point_b0 fu (F_fold_point_p0 fu n)
def F_fold_point (fu : Nat) (p0 : Bs) (p1 : Int) : Option Int := F_fold_point_p0 fu fu p0 (0 : Int) (if (1 : Int) > p1 then (1 : Int) else p1)
/- posthouse/basic.None -/
def F_basic_None : Option ((Int × Int)) := some ((0 : Int), (0 : Int))
/- posthouse/fold.Fold -/
abbrev x18t2 : Type := Int → Int → (Int × Int) → (List Bs) → Option ((Int × Int) × (List Bs))
abbrev x18t1 : Type := Bs → (Int × Int) → (List Bs) → Option ((Int × Int) × (List Bs))
abbrev x18t0 : Type := Bs → Int → (Int × Int) → (List Bs) → Option ((Int × Int) × (List Bs))
def F_fold_Fold_b2 (fu : Nat) (r2 : x18t2) : x18t2 := fun s56 s57 m32 m33 => bif decide (s57 < s56) then bif decide (0 ≤ s57 ∧ s57.toNat < List.length m33) then (m33[s57.toNat]?).bind fun y1 => bif decide ((998 : Int) < (List.length y1 : Int)) then (F_basic_Fault (1 : Int) s57).bind fun x2 => some (x2, []) else r2 s56 (w64 (s57 + (1 : Int))) m32 m33 else none else (F_basic_None).bind fun x3 => some (x3, m33)
def F_fold_Fold_p2 (fu : Nat) : Nat → x18t2 | 0 => fun _ _ _ _ => none | n + 1 => F_fold_Fold_b2 fu (F_fold_Fold_p2 fu n)
def F_fold_Fold_p1 (fu : Nat) : x18t1 := fun s6 m32 m33 => bif decide (List.length (m33 ++ ([s6] : List Bs)) ≤ rowMax) then F_fold_Fold_p2 fu fu (List.length (m33 ++ ([s6] : List Bs)) : Int) (0 : Int) m32 (m33 ++ ([s6] : List Bs)) else none
def F_fold_Fold_b0 (fu : Nat) (r0 : x18t0) : x18t0 := fun s6 s7 m32 m33 => bif decide ((78 : Int) < (List.length s6 : Int)) then (F_fold_point fu s6 s7).bind fun x1 => bif x1 == (0 : Int) then F_fold_Fold_p1 fu s6 m32 m33 else bif decide (0 ≤ x1 ∧ x1 ≤ (List.length s6 : Int)) then bif decide (List.length (m33 ++ ([List.take x1.toNat s6] : List Bs)) ≤ rowMax) then bif decide (0 ≤ x1 ∧ x1 ≤ (List.length s6 : Int)) then r0 (List.drop x1.toNat s6) (0 : Int) m32 (m33 ++ ([List.take x1.toNat s6] : List Bs)) else none else none else none else F_fold_Fold_p1 fu s6 m32 m33
def F_fold_Fold_p0 (fu : Nat) : Nat → x18t0 | 0 => fun _ _ _ _ => none | n + 1 => F_fold_Fold_b0 fu (F_fold_Fold_p0 fu n)
def F_fold_Fold (fu : Nat) (p0 : Bs) (p1 : Bs) : Option ((Int × Int) × (List Bs)) := (F_fold_name fu p0).bind fun x1 => bif !x1 then (F_basic_Fault (10 : Int) (-1 : Int)).bind fun x2 => some (x2, []) else bif decide ((4000 : Int) < (List.length p1 : Int)) then (F_basic_Fault (1 : Int) (-1 : Int)).bind fun x3 => some (x3, []) else (F_fold_value fu p1).bind fun x4 => bif !x4 then (F_basic_Fault (11 : Int) (-1 : Int)).bind fun x5 => some (x5, []) else bif decide (List.length p0 + List.length ([58, 32] : Bs) ≤ strMax) then bif decide (List.length (p0 ++ ([58, 32] : Bs)) + List.length p1 ≤ strMax) then F_fold_Fold_p0 fu fu ((p0 ++ ([58, 32] : Bs)) ++ p1) (w64 ((List.length p0 : Int) + (2 : Int))) ((0 : Int), (0 : Int)) [] else none else none
/- posthouse/basic.Failed -/
def F_basic_Failed (p0 : Int × Int) : Option Bool := some (p0.1 != (0 : Int))
/- posthouse/header.Validate -/
abbrev x20t0 : Type := (List (Bs × Bs)) → Int → Int → (Int × Int) → Option ((Int × Int))
def F_header_Validate_b0 (fu : Nat) (r0 : x20t0) : x20t0 := fun s11 s12 s13 m32 => bif decide (s13 < s12) then (idx s11 s13).bind fun y1 => (F_fold_Fold fu y1.1 y1.2).bind fun x2 => (F_basic_Failed x2.1).bind fun x3 => bif x3 then (F_basic_Fault x2.1.1 s13).bind fun x4 => some x4 else r0 s11 s12 (w64 (s13 + (1 : Int))) m32 else (F_basic_None).bind fun x5 => some x5
def F_header_Validate_p0 (fu : Nat) : Nat → x20t0 | 0 => fun _ _ _ _ => none | n + 1 => F_header_Validate_b0 fu (F_header_Validate_p0 fu n)
def F_header_Validate (fu : Nat) (p0 : List (Bs × Bs)) : Option ((Int × Int)) := bif decide ((60 : Int) < (List.length p0 : Int)) then (F_basic_Fault (2 : Int) (-1 : Int)).bind fun x1 => some x1 else F_header_Validate_p0 fu fu p0 (List.length p0 : Int) (0 : Int) ((0 : Int), (0 : Int))
/- posthouse/basic.Lower -/
abbrev x21t0 : Type := Int → Int → Bs → Option (Bs)
def F_basic_Lower_b0 (fu : Nat) (r0 : x21t0) : x21t0 := fun s9 s10 m32 => bif decide (s10 < s9) then bif decide (0 ≤ s10 ∧ s10.toNat < List.length m32) then (m32[s10.toNat]?).bind fun y1 => bif decide ((65 : UInt8) ≤ y1) then bif decide (y1 ≤ (90 : UInt8)) then bif decide (0 ≤ s10 ∧ s10.toNat < List.length m32) then (m32[s10.toNat]?).bind fun y2 => r0 s9 (w64 (s10 + (1 : Int))) (List.set m32 s10.toNat ((y1 + (97 : UInt8)) - (65 : UInt8))) else none else r0 s9 (w64 (s10 + (1 : Int))) m32 else r0 s9 (w64 (s10 + (1 : Int))) m32 else none else some m32
def F_basic_Lower_p0 (fu : Nat) : Nat → x21t0 | 0 => fun _ _ _ => none | n + 1 => F_basic_Lower_b0 fu (F_basic_Lower_p0 fu n)
def F_basic_Lower (fu : Nat) (p0 : Bs) : Option (Bs) := bif decide (List.length p0 ≤ maxLen) then F_basic_Lower_p0 fu fu (List.length p0 : Int) (0 : Int) p0 else none
/- posthouse/basic.Same -/
def F_basic_Same (fu : Nat) (p0 : Bs) (p1 : Bs) : Option Bool := bif (List.length p0 : Int) == (List.length p1 : Int) then (F_basic_Lower fu p0).bind fun x1 => (F_basic_Lower fu p1).bind fun x2 => some (x1 == x2) else some false
/- internal/stringslite.HasSuffix -/
def F_internal_stringslite_HasSuffix (p0 : Bs) (p1 : Bs) : Option Bool := bif decide ((List.length p1 : Int) ≤ (List.length p0 : Int)) then bif decide (0 ≤ w64 ((List.length p0 : Int) - (List.length p1 : Int)) ∧ w64 ((List.length p0 : Int) - (List.length p1 : Int)) ≤ (List.length p0 : Int)) then some ((List.drop (w64 ((List.length p0 : Int) - (List.length p1 : Int))).toNat p0) == p1) else none else some false
/- internal/stringslite.TrimSuffix -/
def F_internal_stringslite_TrimSuffix (p0 : Bs) (p1 : Bs) : Option (Bs) := (F_internal_stringslite_HasSuffix p0 p1).bind fun x1 => bif x1 then bif decide (0 ≤ w64 ((List.length p0 : Int) - (List.length p1 : Int)) ∧ w64 ((List.length p0 : Int) - (List.length p1 : Int)) ≤ (List.length p0 : Int)) then some (List.take (w64 ((List.length p0 : Int) - (List.length p1 : Int))).toNat p0) else none else some p0
/- strings.TrimSuffix -/
def F_strings_TrimSuffix (p0 : Bs) (p1 : Bs) : Option (Bs) := (F_internal_stringslite_TrimSuffix p0 p1).bind fun x1 => some x1
/- posthouse/canonical.squeezed -/
abbrev x26t0 : Type := Bs → Int → Int → Bs → Option (Bs)
def F_canonical_squeezed_b0 (fu : Nat) (r0 : x26t0) : x26t0 := fun s0 s8 s9 m32 => bif decide (s9 < s8) then (idx s0 s9).bind fun c1 => (F_basic_Blank c1).bind fun x2 => bif x2 then bif decide ((0 : Int) < (List.length m32 : Int)) then bif decide (0 ≤ w64 ((List.length m32 : Int) - (1 : Int)) ∧ (w64 ((List.length m32 : Int) - (1 : Int))).toNat < List.length m32) then (m32[(w64 ((List.length m32 : Int) - (1 : Int))).toNat]?).bind fun y3 => bif y3 == (32 : UInt8) then r0 s0 s8 (w64 (s9 + (1 : Int))) m32 else bif decide (List.length (m32 ++ ([(32 : UInt8)] : Bs)) ≤ rowMax) then r0 s0 s8 (w64 (s9 + (1 : Int))) (m32 ++ ([(32 : UInt8)] : Bs)) else none else none else bif decide (List.length (m32 ++ ([(32 : UInt8)] : Bs)) ≤ rowMax) then r0 s0 s8 (w64 (s9 + (1 : Int))) (m32 ++ ([(32 : UInt8)] : Bs)) else none else bif decide (List.length (m32 ++ ([c1] : Bs)) ≤ rowMax) then r0 s0 s8 (w64 (s9 + (1 : Int))) (m32 ++ ([c1] : Bs)) else none else (F_strings_TrimSuffix m32 ([32] : Bs)).bind fun x4 => some x4
def F_canonical_squeezed_p0 (fu : Nat) : Nat → x26t0 | 0 => fun _ _ _ _ => none | n + 1 => F_canonical_squeezed_b0 fu (F_canonical_squeezed_p0 fu n)
def F_canonical_squeezed (fu : Nat) (p0 : Bs) : Option (Bs) := F_canonical_squeezed_p0 fu fu p0 (List.length p0 : Int) (0 : Int) []
/- posthouse/canonical.field -/
def F_canonical_field (fu : Nat) (p0 : Bs × Bs) : Option (Bs) := (F_basic_Lower fu p0.1).bind fun x1 => bif decide (List.length x1 + List.length ([58] : Bs) ≤ strMax) then (F_canonical_squeezed fu p0.2).bind fun x2 => bif decide (List.length (x1 ++ ([58] : Bs)) + List.length x2 ≤ strMax) then bif decide (List.length ((x1 ++ ([58] : Bs)) ++ x2) + List.length ([13, 10] : Bs) ≤ strMax) then some (((x1 ++ ([58] : Bs)) ++ x2) ++ ([13, 10] : Bs)) else none else none else none
/- posthouse/canonical.Fields -/
abbrev x28t2 : Type := (List (Bs × Bs)) → Bs → Int → (List Bs) → Int → Int → Bool → (Int × Int) → (List Bool) → Bs → Option ((Int × Int) × Bs)
abbrev x28t1 : Type := (List (Bs × Bs)) → Bs → Int → (List Bs) → Int → Int → (Int × Int) → (List Bool) → Bs → Option ((Int × Int) × Bs)
abbrev x28t0 : Type := (List (Bs × Bs)) → (List Bs) → Int → Int → (Int × Int) → (List Bool) → Bs → Option ((Int × Int) × Bs)
def F_canonical_Fields_p2 (fu : Nat) (r0 : x28t0) (r1 : x28t1) : x28t2 := fun s0 s10 s11 s24 s25 s26 s50 m32 m33 m34 => bif s50 then bif decide (0 ≤ s11 ∧ s11.toNat < List.length m33) then (m33[s11.toNat]?).bind fun y1 => (idx s0 s11).bind fun y2 => (F_canonical_field fu y2).bind fun x3 => bif decide (List.length (m34 ++ x3) ≤ rowMax) then r0 s0 s24 s25 (w64 (s26 + (1 : Int))) m32 (List.set m33 s11.toNat true) (m34 ++ x3) else none else none else r1 s0 s10 (w64 (s11 - (1 : Int))) s24 s25 s26 m32 m33 m34
def F_canonical_Fields_b1 (fu : Nat) (r0 : x28t0) (r1 : x28t1) : x28t1 := fun s0 s10 s11 s24 s25 s26 m32 m33 m34 => bif decide ((0 : Int) ≤ s11) then bif decide (0 ≤ s11 ∧ s11.toNat < List.length m33) then (m33[s11.toNat]?).bind fun y1 => bif !y1 then (idx s0 s11).bind fun y2 => (F_basic_Same fu y2.1 s10).bind fun x3 => F_canonical_Fields_p2 fu r0 r1 s0 s10 s11 s24 s25 s26 x3 m32 m33 m34 else F_canonical_Fields_p2 fu r0 r1 s0 s10 s11 s24 s25 s26 false m32 m33 m34 else none else r0 s0 s24 s25 (w64 (s26 + (1 : Int))) m32 m33 m34
def F_canonical_Fields_p1 (fu : Nat) (r0 : x28t0) : Nat → x28t1 | 0 => fun _ _ _ _ _ _ _ _ _ => none | n + 1 => F_canonical_Fields_b1 fu r0 (F_canonical_Fields_p1 fu r0 n)
def F_canonical_Fields_b0 (fu : Nat) (r0 : x28t0) : x28t0 := fun s0 s24 s25 s26 m32 m33 m34 => bif decide (s26 < s25) then (idx s24 s26).bind fun y1 => F_canonical_Fields_p1 fu r0 fu s0 y1 (w64 ((List.length s0 : Int) - (1 : Int))) s24 s25 s26 m32 m33 m34 else (F_basic_None).bind fun x2 => some (x2, m34)
def F_canonical_Fields_p0 (fu : Nat) : Nat → x28t0 | 0 => fun _ _ _ _ _ _ _ => none | n + 1 => F_canonical_Fields_b0 fu (F_canonical_Fields_p0 fu n)
def F_canonical_Fields (fu : Nat) (p0 : List (Bs × Bs)) (p1 : List Bs) : Option ((Int × Int) × Bs) := (F_header_Validate fu p0).bind fun x1 => (F_basic_Failed x1).bind fun x2 => bif x2 then some (x1, []) else bif decide ((300 : Int) < (List.length p1 : Int)) then (F_basic_Fault (2 : Int) (-2 : Int)).bind fun x3 => some (x3, []) else bif decide (0 ≤ (List.length p0 : Int) ∧ (List.length p0 : Int) = (List.length p0 : Int) ∧ (List.length p0 : Int) ≤ 4294967296) then F_canonical_Fields_p0 fu fu p0 p1 (List.length p1 : Int) (0 : Int) ((0 : Int), (0 : Int)) (List.replicate (List.length p0 : Int).toNat false) [] else none
/- bytes.splitSeq -/
def F_bytes_splitSeq (p0 : Bs) (p1 : Bs) (p2 : Int) : Option (Bs × Bs × Int) := some (p1, (p0, p2))
/- bytes.SplitSeq -/
def F_bytes_SplitSeq (p0 : Bs) (p1 : Bs) : Option (Bs × Bs × Int) := (F_bytes_splitSeq p0 p1 (0 : Int)).bind fun x1 => some x1
/- unicode/utf8.decodeRuneSlow -/
abbrev x31t5 : Type := UInt8 → UInt8 → UInt8 → UInt8 → Option (Int × Int)
abbrev x31t4 : Type := UInt8 → UInt8 → UInt8 → UInt8 → Bool → Option (Int × Int)
abbrev x31t3 : Type := Bs → UInt8 → Int → UInt8 → UInt8 → Option (Int × Int)
abbrev x31t2 : Type := Bs → UInt8 → Int → UInt8 → UInt8 → Bool → Option (Int × Int)
abbrev x31t1 : Type := Bs → UInt8 → Int → UInt8 → Option (Int × Int)
abbrev x31t0 : Type := Bs → UInt8 → Int → UInt8 → Bool → Option (Int × Int)
def F_unicode_utf8_decodeRuneSlow_p5 : x31t5 := fun s5 s10 s11 s12 => some (IntKind.i32.wrap (((BitVec.ofInt 32 (IntKind.i32.wrap (((BitVec.ofInt 32 (IntKind.i32.wrap (((BitVec.ofInt 32 (IntKind.i32.wrap (((s5 &&& (7 : UInt8)).toNat : Int) * 2 ^ min (18 : Int).toNat 32)) ||| BitVec.ofInt 32 (IntKind.i32.wrap (((s10 &&& (63 : UInt8)).toNat : Int) * 2 ^ min (12 : Int).toNat 32))).toNat : Int))) ||| BitVec.ofInt 32 (IntKind.i32.wrap (((s11 &&& (63 : UInt8)).toNat : Int) * 2 ^ min (6 : Int).toNat 32))).toNat : Int))) ||| BitVec.ofInt 32 ((s12 &&& (63 : UInt8)).toNat : Int)).toNat : Int)), (4 : Int))
def F_unicode_utf8_decodeRuneSlow_p4 : x31t4 := fun s5 s10 s11 s12 s103 => bif s103 then some ((65533 : Int), (1 : Int)) else F_unicode_utf8_decodeRuneSlow_p5 s5 s10 s11 s12
def F_unicode_utf8_decodeRuneSlow_p3 : x31t3 := fun s0 s5 s8 s10 s11 => bif decide (s8 ≤ (3 : Int)) then some (IntKind.i32.wrap (((BitVec.ofInt 32 (IntKind.i32.wrap (((BitVec.ofInt 32 (IntKind.i32.wrap (((s5 &&& (15 : UInt8)).toNat : Int) * 2 ^ min (12 : Int).toNat 32)) ||| BitVec.ofInt 32 (IntKind.i32.wrap (((s10 &&& (63 : UInt8)).toNat : Int) * 2 ^ min (6 : Int).toNat 32))).toNat : Int))) ||| BitVec.ofInt 32 ((s11 &&& (63 : UInt8)).toNat : Int)).toNat : Int)), (3 : Int)) else (idx s0 (3 : Int)).bind fun y1 => bif decide (y1 < (128 : UInt8)) then F_unicode_utf8_decodeRuneSlow_p4 s5 s10 s11 y1 true else F_unicode_utf8_decodeRuneSlow_p4 s5 s10 s11 y1 (decide ((191 : UInt8) < y1))
def F_unicode_utf8_decodeRuneSlow_p2 : x31t2 := fun s0 s5 s8 s10 s11 s79 => bif s79 then some ((65533 : Int), (1 : Int)) else F_unicode_utf8_decodeRuneSlow_p3 s0 s5 s8 s10 s11
def F_unicode_utf8_decodeRuneSlow_p1 : x31t1 := fun s0 s5 s8 s10 => bif decide (s8 ≤ (2 : Int)) then some (IntKind.i32.wrap (((BitVec.ofInt 32 (IntKind.i32.wrap (((s5 &&& (31 : UInt8)).toNat : Int) * 2 ^ min (6 : Int).toNat 32)) ||| BitVec.ofInt 32 ((s10 &&& (63 : UInt8)).toNat : Int)).toNat : Int)), (2 : Int)) else (idx s0 (2 : Int)).bind fun y1 => bif decide (y1 < (128 : UInt8)) then F_unicode_utf8_decodeRuneSlow_p2 s0 s5 s8 s10 y1 true else F_unicode_utf8_decodeRuneSlow_p2 s0 s5 s8 s10 y1 (decide ((191 : UInt8) < y1))
def F_unicode_utf8_decodeRuneSlow_p0 : x31t0 := fun s0 s5 s8 s10 s60 => bif s60 then some ((65533 : Int), (1 : Int)) else F_unicode_utf8_decodeRuneSlow_p1 s0 s5 s8 s10
def F_unicode_utf8_decodeRuneSlow (p0 : Bs) : Option (Int × Int) := bif decide ((List.length p0 : Int) < (1 : Int)) then some ((65533 : Int), (0 : Int)) else (idx p0 (0 : Int)).bind fun y1 => (tab2[y1.toNat]?).bind fun y2 => bif decide ((240 : UInt8) ≤ y2) then (idx p0 (0 : Int)).bind fun y3 => some (IntKind.i32.wrap (((BitVec.ofInt 32 (IntKind.i32.wrap (((BitVec.ofInt 32 (y3.toNat : Int) &&& ~~~ BitVec.ofInt 32 (Int.fdiv (IntKind.i32.wrap ((y2.toNat : Int) * 2 ^ min (31 : Int).toNat 32)) (2 ^ min (31 : Int).toNat 32))).toNat : Int))) ||| BitVec.ofInt 32 (IntKind.i32.wrap (((BitVec.ofInt 32 (65533 : Int) &&& BitVec.ofInt 32 (Int.fdiv (IntKind.i32.wrap ((y2.toNat : Int) * 2 ^ min (31 : Int).toNat 32)) (2 ^ min (31 : Int).toNat 32))).toNat : Int)))).toNat : Int)), (1 : Int)) else (tab3[(u8shr y2 (min (4 : Int).toNat 8)).toNat]?).bind fun y4 => bif decide ((List.length p0 : Int) < ((y2 &&& (7 : UInt8)).toNat : Int)) then some ((65533 : Int), (1 : Int)) else (idx p0 (1 : Int)).bind fun y5 => bif decide (y5 < y4.1) then F_unicode_utf8_decodeRuneSlow_p0 p0 y1 ((y2 &&& (7 : UInt8)).toNat : Int) y5 true else F_unicode_utf8_decodeRuneSlow_p0 p0 y1 ((y2 &&& (7 : UInt8)).toNat : Int) y5 (decide (y4.2 < y5))
/- unicode/utf8.DecodeRune -/
abbrev x32t0 : Type := Bs → Bs → Int → Option (Int × Int)
def F_unicode_utf8_DecodeRune_b0 (fu : Nat) (r0 : x32t0) : x32t0 := fun s0 s6 s7 => bif decide ((0 : Int) < s7) then (idx s6 (0 : Int)).bind fun y1 => bif decide (y1 < (128 : UInt8)) then some ((y1.toNat : Int), (1 : Int)) else (F_unicode_utf8_decodeRuneSlow s0).bind fun x2 => some x2 else (F_unicode_utf8_decodeRuneSlow s0).bind fun x3 => some x3
def F_unicode_utf8_DecodeRune_p0 (fu : Nat) : Nat → x32t0 | 0 => fun _ _ _ => none | n + 1 => F_unicode_utf8_DecodeRune_b0 fu (F_unicode_utf8_DecodeRune_p0 fu n)
def F_unicode_utf8_DecodeRune (fu : Nat) (p0 : Bs) : Option (Int × Int) := F_unicode_utf8_DecodeRune_p0 fu fu p0 p0 (List.length p0 : Int)
/- posthouse/canonical.body (a round) -/
def F_canonical_body_r0 (fu : Nat) (p0 : Bs) (p1 : Int) (p2 : Bs) : Option (Int × Bs) := (F_canonical_squeezed fu p0).bind fun x1 => bif x1 == ([] : Bs) then some (w64 (p1 + (1 : Int)), p2) else (F_strings_Repeat ([13, 10] : Bs) p1).bind fun x2 => bif decide (List.length x2 + List.length x1 ≤ strMax) then bif decide (List.length (x2 ++ x1) + List.length ([13, 10] : Bs) ≤ strMax) then bif decide (List.length (p2 ++ ((x2 ++ x1) ++ ([13, 10] : Bs))) ≤ rowMax) then some ((0 : Int), p2 ++ ((x2 ++ x1) ++ ([13, 10] : Bs))) else none else none else none
/- bytes.splitSeq$1 -/
abbrev R_bytes_splitSeq_1 : Type := Bs × Bs × Int × Int × Bs
abbrev x34t0 : Type := Bs → Bs → Int → Int → Bs → Option R_bytes_splitSeq_1
abbrev x34t1 : Type := Bs → Bs → Int → Int → Bs → Option R_bytes_splitSeq_1
def F_bytes_splitSeq_1_b0 (fu : Nat) (r0 : x34t0) : x34t0 := fun m1 m2 m3 m5 m32 => bif decide ((0 : Int) < (List.length m2 : Int)) then (F_unicode_utf8_DecodeRune fu m2).bind fun x1 => bif decide (0 ≤ (0 : Int) ∧ (0 : Int) ≤ x1.2 ∧ x1.2 ≤ x1.2 ∧ x1.2 ≤ (List.length m2 : Int)) then (F_canonical_body_r0 fu (List.take (x1.2.toNat - (0 : Int).toNat) (List.drop (0 : Int).toNat m2)) m5 m32).bind fun x2 => bif decide (0 ≤ x1.2 ∧ x1.2 ≤ (List.length m2 : Int)) then r0 m1 (List.drop x1.2.toNat m2) m3 x2.1 x2.2 else none else none else some (m1, (m2, (m3, (m5, m32))))
def F_bytes_splitSeq_1_p0 (fu : Nat) : Nat → x34t0 | 0 => fun _ _ _ _ _ => none | n + 1 => F_bytes_splitSeq_1_b0 fu (F_bytes_splitSeq_1_p0 fu n)
def F_bytes_splitSeq_1_b1 (fu : Nat) (r1 : x34t1) : x34t1 := fun m1 m2 m3 m5 m32 => (F_bytes_Index m2 m1).bind fun x1 => bif decide (x1 < (0 : Int)) then bif decide (0 ≤ (0 : Int) ∧ (0 : Int) ≤ (List.length m2 : Int) ∧ (List.length m2 : Int) ≤ (List.length m2 : Int) ∧ (List.length m2 : Int) ≤ (List.length m2 : Int)) then (F_canonical_body_r0 fu (List.take ((List.length m2 : Int).toNat - (0 : Int).toNat) (List.drop (0 : Int).toNat m2)) m5 m32).bind fun x2 => some (m1, (m2, (m3, x2))) else none else bif decide (0 ≤ w64 (x1 + m3) ∧ w64 (x1 + m3) ≤ (List.length m2 : Int)) then bif decide (0 ≤ (0 : Int) ∧ (0 : Int) ≤ (List.length (List.take (w64 (x1 + m3)).toNat m2) : Int) ∧ (List.length (List.take (w64 (x1 + m3)).toNat m2) : Int) ≤ (List.length (List.take (w64 (x1 + m3)).toNat m2) : Int) ∧ (List.length (List.take (w64 (x1 + m3)).toNat m2) : Int) ≤ (List.length (List.take (w64 (x1 + m3)).toNat m2) : Int)) then (F_canonical_body_r0 fu (List.take ((List.length (List.take (w64 (x1 + m3)).toNat m2) : Int).toNat - (0 : Int).toNat) (List.drop (0 : Int).toNat (List.take (w64 (x1 + m3)).toNat m2))) m5 m32).bind fun x3 => bif decide (0 ≤ w64 (x1 + (List.length m1 : Int)) ∧ w64 (x1 + (List.length m1 : Int)) ≤ (List.length m2 : Int)) then r1 m1 (List.drop (w64 (x1 + (List.length m1 : Int))).toNat m2) m3 x3.1 x3.2 else none else none else none
def F_bytes_splitSeq_1_p1 (fu : Nat) : Nat → x34t1 | 0 => fun _ _ _ _ _ => none | n + 1 => F_bytes_splitSeq_1_b1 fu (F_bytes_splitSeq_1_p1 fu n)
def F_bytes_splitSeq_1 (fu : Nat) (p0 : Bs) (p1 : Bs) (p2 : Int) (p3 : Int) (p4 : Bs) : Option R_bytes_splitSeq_1 := bif (List.length p0 : Int) == (0 : Int) then F_bytes_splitSeq_1_p0 fu fu p0 p1 p2 p3 p4 else F_bytes_splitSeq_1_p1 fu fu p0 p1 p2 p3 p4
/- posthouse/canonical.body -/
def F_canonical_body (fu : Nat) (p0 : Bs) : Option (Bs) := bif decide (0 < List.length ([(13 : UInt8), (10 : UInt8)] : Bs)) then (F_bytes_SplitSeq p0 ([(13 : UInt8), (10 : UInt8)] : Bs)).bind fun x1 => (F_bytes_splitSeq_1 fu x1.1 x1.2.1 x1.2.2 (0 : Int) []).bind fun x2 => some x2.2.2.2.2 else none
/- posthouse/canonical.Body -/
def F_canonical_Body (fu : Nat) (p0 : Bs) : Option ((Int × Int) × Bs) := bif decide ((12000 : Int) < (List.length p0 : Int)) then (F_basic_Fault (1 : Int) (-1 : Int)).bind fun x1 => some (x1, []) else (F_canonical_body fu p0).bind fun x2 => (F_basic_None).bind fun x3 => some (x3, x2)
/- posthouse/message.write -/
abbrev x37t1 : Type := (List (Bs × Bs)) → Int → Int → Int → Int → ((List (Bs × Bs)) × Bs) → (List Bs) → Bs → Option (Bs)
abbrev x37t0 : Type := (List (Bs × Bs)) → Int → Int → ((List (Bs × Bs)) × Bs) → Bs → Option (Bs)
def F_message_write_b1 (fu : Nat) (r0 : x37t0) (r1 : x37t1) : x37t1 := fun s11 s12 s13 s26 s27 m32 m33 m34 => bif decide (s27 < s26) then bif decide (0 ≤ s27 ∧ s27.toNat < List.length m33) then (m33[s27.toNat]?).bind fun y1 => bif decide (List.length (m34 ++ y1) ≤ rowMax) then bif decide (List.length ((m34 ++ y1) ++ ([(13 : UInt8), (10 : UInt8)] : Bs)) ≤ rowMax) then r1 s11 s12 s13 s26 (w64 (s27 + (1 : Int))) m32 m33 ((m34 ++ y1) ++ ([(13 : UInt8), (10 : UInt8)] : Bs)) else none else none else none else r0 s11 s12 (w64 (s13 + (1 : Int))) m32 m34
def F_message_write_p1 (fu : Nat) (r0 : x37t0) : Nat → x37t1 | 0 => fun _ _ _ _ _ _ _ _ => none | n + 1 => F_message_write_b1 fu r0 (F_message_write_p1 fu r0 n)
def F_message_write_b0 (fu : Nat) (r0 : x37t0) : x37t0 := fun s11 s12 s13 m32 m33 => bif decide (s13 < s12) then (idx s11 s13).bind fun y1 => (F_fold_Fold fu y1.1 y1.2).bind fun x2 => F_message_write_p1 fu r0 fu s11 s12 s13 (List.length x2.2 : Int) (0 : Int) m32 x2.2 m33 else bif decide (List.length (m33 ++ ([(13 : UInt8), (10 : UInt8)] : Bs)) ≤ rowMax) then bif decide (List.length ((m33 ++ ([(13 : UInt8), (10 : UInt8)] : Bs)) ++ m32.2) ≤ rowMax) then some ((m33 ++ ([(13 : UInt8), (10 : UInt8)] : Bs)) ++ m32.2) else none else none
def F_message_write_p0 (fu : Nat) : Nat → x37t0 | 0 => fun _ _ _ _ _ => none | n + 1 => F_message_write_b0 fu (F_message_write_p0 fu n)
def F_message_write (fu : Nat) (p0 : (List (Bs × Bs)) × Bs) : Option (Bs) := F_message_write_p0 fu fu p0.1 (List.length p0.1 : Int) (0 : Int) p0 []
/- posthouse/basic.Body -/
abbrev x38t2 : Type := Bs → Int → Int → UInt8 → Option Int
abbrev x38t1 : Type := Bs → Int → Int → UInt8 → Bool → Option Int
abbrev x38t0 : Type := Bs → Int → Int → Option Int
def F_basic_Body_p2 (fu : Nat) (r0 : x38t0) : x38t2 := fun s0 s3 s4 s5 => bif s5 == (13 : UInt8) then some (11 : Int) else bif s5 == (10 : UInt8) then some (11 : Int) else bif decide ((998 : Int) < (w64 (s3 + (1 : Int)))) then some (1 : Int) else r0 s0 (w64 (s3 + (1 : Int))) (w64 (s4 + (1 : Int)))
def F_basic_Body_p1 (fu : Nat) (r0 : x38t0) : x38t1 := fun s0 s3 s4 s5 s32 => bif s32 then r0 s0 (0 : Int) (w64 ((w64 (s4 + (1 : Int))) + (1 : Int))) else F_basic_Body_p2 fu r0 s0 s3 s4 s5
def F_basic_Body_b0 (fu : Nat) (r0 : x38t0) : x38t0 := fun s0 s3 s4 => bif decide (s4 < (List.length s0 : Int)) then (idx s0 s4).bind fun y1 => bif y1 == (13 : UInt8) then bif decide ((w64 (s4 + (1 : Int))) < (List.length s0 : Int)) then (idx s0 (w64 (s4 + (1 : Int)))).bind fun y2 => F_basic_Body_p1 fu r0 s0 s3 s4 y1 (y2 == (10 : UInt8)) else F_basic_Body_p1 fu r0 s0 s3 s4 y1 false else F_basic_Body_p1 fu r0 s0 s3 s4 y1 false else some (0 : Int)
def F_basic_Body_p0 (fu : Nat) : Nat → x38t0 | 0 => fun _ _ _ => none | n + 1 => F_basic_Body_b0 fu (F_basic_Body_p0 fu n)
def F_basic_Body (fu : Nat) (p0 : Bs) : Option Int := F_basic_Body_p0 fu fu p0 (0 : Int) (0 : Int)
/- posthouse/message.body -/
def F_message_body (fu : Nat) (p0 : Bs) : Option ((Int × Int)) := (F_basic_Body fu p0).bind fun x1 => bif x1 == (11 : Int) then (F_basic_Fault (11 : Int) (-5 : Int)).bind fun x2 => some x2 else bif x1 == (1 : Int) then (F_basic_Fault (1 : Int) (-6 : Int)).bind fun x3 => some x3 else (F_basic_None).bind fun x4 => some x4
/- posthouse/message.Validate -/
def F_message_Validate (fu : Nat) (p0 : (List (Bs × Bs)) × Bs) : Option ((Int × Int)) := (F_header_Validate fu p0.1).bind fun x1 => (F_basic_Failed x1).bind fun x2 => bif x2 then some x1 else (F_message_write fu p0).bind fun x3 => bif decide ((12000 : Int) < (List.length x3 : Int)) then (F_basic_Fault (1 : Int) (-4 : Int)).bind fun x4 => some x4 else (F_message_body fu p0.2).bind fun x5 => some x5
/- posthouse/parts.Type -/
abbrev x41t1 : Type := (List (Bs × Bs)) → Int → (List (Bs × Bs)) → Int → Int → Bs → Bs → Option (Bs × Bs × Int × Bool)
abbrev x41t0 : Type := (List (Bs × Bs)) → Int → (List (Bs × Bs)) → Int → Int → Bs → Bs → Option (Bs × Bs × Int × Bool)
def F_parts_Type_p1 (fu : Nat) (r0 : x41t0) : x41t1 := fun s0 s5 s10 s11 s12 m32_0 m32_1 => r0 s0 s5 s10 s11 (w64 (s12 + (1 : Int))) m32_0 m32_1
def F_parts_Type_b0 (fu : Nat) (r0 : x41t0) : x41t0 := fun s0 s5 s10 s11 s12 m32_0 m32_1 => bif decide (s12 < s11) then (idx s10 s12).bind fun y1 => (F_basic_Same fu y1.1 ([67, 111, 110, 116, 101, 110, 116, 45, 84, 121, 112, 101] : Bs)).bind fun x2 => bif x2 then bif decide ((0 : Int) ≤ s5) then some (([] : Bs), (([] : Bs), ((0 : Int), false))) else F_parts_Type_p1 fu r0 s0 s12 s10 s11 s12 m32_0 m32_1 else F_parts_Type_p1 fu r0 s0 s5 s10 s11 s12 m32_0 m32_1 else bif decide (s5 < (0 : Int)) then some (([] : Bs), (([] : Bs), ((0 : Int), false))) else (idx s0 s5).bind fun y3 => none
def F_parts_Type_p0 (fu : Nat) : Nat → x41t0 | 0 => fun _ _ _ _ _ _ _ => none | n + 1 => F_parts_Type_b0 fu (F_parts_Type_p0 fu n)
def F_parts_Type (fu : Nat) (p0 : List (Bs × Bs)) : Option (Bs × Bs × Int × Bool) := F_parts_Type_p0 fu fu p0 (-1 : Int) p0 (List.length p0 : Int) (0 : Int) ([] : Bs) ([] : Bs)
/- posthouse/parts.boundary -/
abbrev x42t1 : Type := Bs → Bs → Option (Bs × Bool)
abbrev x42t0 : Type := Bool → Bs → Bs → Option (Bs × Bool)
def F_parts_boundary_p1 (fu : Nat) : x42t1 := fun m32_0 m32_1 => none
def F_parts_boundary_p0 (fu : Nat) : x42t0 := fun s24 m32_0 m32_1 => bif s24 then some (([] : Bs), false) else F_parts_boundary_p1 fu m32_0 m32_1
def F_parts_boundary (fu : Nat) (p0 : List (Bs × Bs)) : Option (Bs × Bool) := (F_parts_Type fu p0).bind fun x1 => bif !x1.2.2.2 then F_parts_boundary_p0 fu true x1.1 x1.2.1 else (F_basic_Same fu x1.1 ([109, 117, 108, 116, 105, 112, 97, 114, 116] : Bs)).bind fun x2 => F_parts_boundary_p0 fu (!x2) x1.1 x1.2.1
/- posthouse/parts.lines -/
def F_parts_lines (p0 : Bs) : Option (Bs) := some p0
/- strings.trimRightByte -/
abbrev x44t0 : Type := Bs → UInt8 → Option (Bs)
def F_strings_trimRightByte_b0 (fu : Nat) (r0 : x44t0) : x44t0 := fun s0 s1 => bif decide ((0 : Int) < (List.length s0 : Int)) then (idx s0 (w64 ((List.length s0 : Int) - (1 : Int)))).bind fun c1 => bif c1 == s1 then bif decide (0 ≤ w64 ((List.length s0 : Int) - (1 : Int)) ∧ w64 ((List.length s0 : Int) - (1 : Int)) ≤ (List.length s0 : Int)) then r0 (List.take (w64 ((List.length s0 : Int) - (1 : Int))).toNat s0) s1 else none else some s0 else some s0
def F_strings_trimRightByte_p0 (fu : Nat) : Nat → x44t0 | 0 => fun _ _ => none | n + 1 => F_strings_trimRightByte_b0 fu (F_strings_trimRightByte_p0 fu n)
def F_strings_trimRightByte (fu : Nat) (p0 : Bs) (p1 : UInt8) : Option (Bs) := F_strings_trimRightByte_p0 fu fu p0 p1
/- strings.trimRightASCII -/
abbrev x45t0 : Type := Bs → (List Bool) → Option (Bs × (List Bool))
def F_strings_trimRightASCII_b0 (fu : Nat) (r0 : x45t0) : x45t0 := fun s0 m0 => bif decide ((0 : Int) < (List.length s0 : Int)) then (idx s0 (w64 ((List.length s0 : Int) - (1 : Int)))).bind fun c1 => (F_strings_asciiSet_contains c1 m0).bind fun x2 => bif !x2.1 then some (s0, x2.2) else bif decide (0 ≤ w64 ((List.length s0 : Int) - (1 : Int)) ∧ w64 ((List.length s0 : Int) - (1 : Int)) ≤ (List.length s0 : Int)) then r0 (List.take (w64 ((List.length s0 : Int) - (1 : Int))).toNat s0) x2.2 else none else some (s0, m0)
def F_strings_trimRightASCII_p0 (fu : Nat) : Nat → x45t0 | 0 => fun _ _ => none | n + 1 => F_strings_trimRightASCII_b0 fu (F_strings_trimRightASCII_p0 fu n)
def F_strings_trimRightASCII (fu : Nat) (p0 : Bs) (p1 : List Bool) : Option (Bs × (List Bool)) := F_strings_trimRightASCII_p0 fu fu p0 p1
/- unicode/utf8.RuneStart -/
def F_unicode_utf8_RuneStart (p0 : UInt8) : Option Bool := some ((p0 &&& (192 : UInt8)) != (128 : UInt8))
/- unicode/utf8.decodeRuneInStringSlow -/
abbrev x47t5 : Type := UInt8 → UInt8 → UInt8 → UInt8 → Option (Int × Int)
abbrev x47t4 : Type := UInt8 → UInt8 → UInt8 → UInt8 → Bool → Option (Int × Int)
abbrev x47t3 : Type := Bs → UInt8 → Int → UInt8 → UInt8 → Option (Int × Int)
abbrev x47t2 : Type := Bs → UInt8 → Int → UInt8 → UInt8 → Bool → Option (Int × Int)
abbrev x47t1 : Type := Bs → UInt8 → Int → UInt8 → Option (Int × Int)
abbrev x47t0 : Type := Bs → UInt8 → Int → UInt8 → Bool → Option (Int × Int)
def F_unicode_utf8_decodeRuneInStringSlow_p5 : x47t5 := fun s5 s10 s11 s12 => some (IntKind.i32.wrap (((BitVec.ofInt 32 (IntKind.i32.wrap (((BitVec.ofInt 32 (IntKind.i32.wrap (((BitVec.ofInt 32 (IntKind.i32.wrap (((s5 &&& (7 : UInt8)).toNat : Int) * 2 ^ min (18 : Int).toNat 32)) ||| BitVec.ofInt 32 (IntKind.i32.wrap (((s10 &&& (63 : UInt8)).toNat : Int) * 2 ^ min (12 : Int).toNat 32))).toNat : Int))) ||| BitVec.ofInt 32 (IntKind.i32.wrap (((s11 &&& (63 : UInt8)).toNat : Int) * 2 ^ min (6 : Int).toNat 32))).toNat : Int))) ||| BitVec.ofInt 32 ((s12 &&& (63 : UInt8)).toNat : Int)).toNat : Int)), (4 : Int))
def F_unicode_utf8_decodeRuneInStringSlow_p4 : x47t4 := fun s5 s10 s11 s12 s98 => bif s98 then some ((65533 : Int), (1 : Int)) else F_unicode_utf8_decodeRuneInStringSlow_p5 s5 s10 s11 s12
def F_unicode_utf8_decodeRuneInStringSlow_p3 : x47t3 := fun s0 s5 s8 s10 s11 => bif decide (s8 ≤ (3 : Int)) then some (IntKind.i32.wrap (((BitVec.ofInt 32 (IntKind.i32.wrap (((BitVec.ofInt 32 (IntKind.i32.wrap (((s5 &&& (15 : UInt8)).toNat : Int) * 2 ^ min (12 : Int).toNat 32)) ||| BitVec.ofInt 32 (IntKind.i32.wrap (((s10 &&& (63 : UInt8)).toNat : Int) * 2 ^ min (6 : Int).toNat 32))).toNat : Int))) ||| BitVec.ofInt 32 ((s11 &&& (63 : UInt8)).toNat : Int)).toNat : Int)), (3 : Int)) else (idx s0 (3 : Int)).bind fun c1 => bif decide (c1 < (128 : UInt8)) then F_unicode_utf8_decodeRuneInStringSlow_p4 s5 s10 s11 c1 true else F_unicode_utf8_decodeRuneInStringSlow_p4 s5 s10 s11 c1 (decide ((191 : UInt8) < c1))
def F_unicode_utf8_decodeRuneInStringSlow_p2 : x47t2 := fun s0 s5 s8 s10 s11 s75 => bif s75 then some ((65533 : Int), (1 : Int)) else F_unicode_utf8_decodeRuneInStringSlow_p3 s0 s5 s8 s10 s11
def F_unicode_utf8_decodeRuneInStringSlow_p1 : x47t1 := fun s0 s5 s8 s10 => bif decide (s8 ≤ (2 : Int)) then some (IntKind.i32.wrap (((BitVec.ofInt 32 (IntKind.i32.wrap (((s5 &&& (31 : UInt8)).toNat : Int) * 2 ^ min (6 : Int).toNat 32)) ||| BitVec.ofInt 32 ((s10 &&& (63 : UInt8)).toNat : Int)).toNat : Int)), (2 : Int)) else (idx s0 (2 : Int)).bind fun c1 => bif decide (c1 < (128 : UInt8)) then F_unicode_utf8_decodeRuneInStringSlow_p2 s0 s5 s8 s10 c1 true else F_unicode_utf8_decodeRuneInStringSlow_p2 s0 s5 s8 s10 c1 (decide ((191 : UInt8) < c1))
def F_unicode_utf8_decodeRuneInStringSlow_p0 : x47t0 := fun s0 s5 s8 s10 s57 => bif s57 then some ((65533 : Int), (1 : Int)) else F_unicode_utf8_decodeRuneInStringSlow_p1 s0 s5 s8 s10
def F_unicode_utf8_decodeRuneInStringSlow (p0 : Bs) : Option (Int × Int) := bif decide ((List.length p0 : Int) < (1 : Int)) then some ((65533 : Int), (0 : Int)) else (idx p0 (0 : Int)).bind fun c1 => (tab2[c1.toNat]?).bind fun y2 => bif decide ((240 : UInt8) ≤ y2) then (idx p0 (0 : Int)).bind fun c3 => some (IntKind.i32.wrap (((BitVec.ofInt 32 (IntKind.i32.wrap (((BitVec.ofInt 32 (c3.toNat : Int) &&& ~~~ BitVec.ofInt 32 (Int.fdiv (IntKind.i32.wrap ((y2.toNat : Int) * 2 ^ min (31 : Int).toNat 32)) (2 ^ min (31 : Int).toNat 32))).toNat : Int))) ||| BitVec.ofInt 32 (IntKind.i32.wrap (((BitVec.ofInt 32 (65533 : Int) &&& BitVec.ofInt 32 (Int.fdiv (IntKind.i32.wrap ((y2.toNat : Int) * 2 ^ min (31 : Int).toNat 32)) (2 ^ min (31 : Int).toNat 32))).toNat : Int)))).toNat : Int)), (1 : Int)) else (tab3[(u8shr y2 (min (4 : Int).toNat 8)).toNat]?).bind fun y4 => bif decide ((List.length p0 : Int) < ((y2 &&& (7 : UInt8)).toNat : Int)) then some ((65533 : Int), (1 : Int)) else (idx p0 (1 : Int)).bind fun c5 => bif decide (c5 < y4.1) then F_unicode_utf8_decodeRuneInStringSlow_p0 p0 c1 ((y2 &&& (7 : UInt8)).toNat : Int) c5 true else F_unicode_utf8_decodeRuneInStringSlow_p0 p0 c1 ((y2 &&& (7 : UInt8)).toNat : Int) c5 (decide (y4.2 < c5))
/- unicode/utf8.DecodeRuneInString -/
def F_unicode_utf8_DecodeRuneInString (p0 : Bs) : Option (Int × Int) := bif !(p0 == ([] : Bs)) then (idx p0 (0 : Int)).bind fun c1 => bif decide (c1 < (128 : UInt8)) then (idx p0 (0 : Int)).bind fun c2 => some ((c2.toNat : Int), (1 : Int)) else (F_unicode_utf8_decodeRuneInStringSlow p0).bind fun x3 => some x3 else (F_unicode_utf8_decodeRuneInStringSlow p0).bind fun x4 => some x4
/- unicode/utf8.DecodeLastRuneInString -/
abbrev x49t2 : Type := Bs → Int → Int → Option (Int × Int)
abbrev x49t1 : Type := Bs → Int → Int → Option (Int × Int)
abbrev x49t0 : Type := Bs → Int → Int → Int → Option (Int × Int)
def F_unicode_utf8_DecodeLastRuneInString_p2 (fu : Nat) : x49t2 := fun s0 s4 s5 => bif decide (0 ≤ s5 ∧ s5 ≤ s4 ∧ s4 ≤ (List.length s0 : Int)) then (F_unicode_utf8_DecodeRuneInString (List.take (s4.toNat - s5.toNat) (List.drop s5.toNat s0))).bind fun x1 => bif (w64 (s5 + x1.2)) != s4 then some ((65533 : Int), (1 : Int)) else some x1 else none
def F_unicode_utf8_DecodeLastRuneInString_p1 (fu : Nat) : x49t1 := fun s0 s4 s5 => bif decide (s5 < (0 : Int)) then F_unicode_utf8_DecodeLastRuneInString_p2 fu s0 s4 (0 : Int) else F_unicode_utf8_DecodeLastRuneInString_p2 fu s0 s4 s5
def F_unicode_utf8_DecodeLastRuneInString_b0 (fu : Nat) (r0 : x49t0) : x49t0 := fun s0 s4 s5 s6 => bif decide (s6 ≤ s5) then (idx s0 s5).bind fun c1 => (F_unicode_utf8_RuneStart c1).bind fun x2 => bif x2 then F_unicode_utf8_DecodeLastRuneInString_p1 fu s0 s4 s5 else r0 s0 s4 (w64 (s5 - (1 : Int))) s6 else F_unicode_utf8_DecodeLastRuneInString_p1 fu s0 s4 s5
def F_unicode_utf8_DecodeLastRuneInString_p0 (fu : Nat) : Nat → x49t0 | 0 => fun _ _ _ _ => none | n + 1 => F_unicode_utf8_DecodeLastRuneInString_b0 fu (F_unicode_utf8_DecodeLastRuneInString_p0 fu n)
def F_unicode_utf8_DecodeLastRuneInString (fu : Nat) (p0 : Bs) : Option (Int × Int) := bif (List.length p0 : Int) == (0 : Int) then some ((65533 : Int), (0 : Int)) else (idx p0 (w64 ((List.length p0 : Int) - (1 : Int)))).bind fun c1 => bif decide ((c1.toNat : Int) < (128 : Int)) then some ((c1.toNat : Int), (1 : Int)) else F_unicode_utf8_DecodeLastRuneInString_p0 fu fu p0 (List.length p0 : Int) (w64 ((w64 ((List.length p0 : Int) - (1 : Int))) - (1 : Int))) (if (0 : Int) > w64 ((List.length p0 : Int) - (4 : Int)) then (0 : Int) else w64 ((List.length p0 : Int) - (4 : Int)))
/- strings.ContainsRune -/
def F_strings_ContainsRune (fu : Nat) (p0 : Bs) (p1 : Int) : Option Bool := (F_strings_IndexRune fu p0 p1).bind fun x1 => some (decide ((0 : Int) ≤ x1))
/- strings.trimRightUnicode -/
abbrev x51t0 : Type := Bs → Bs → Option (Bs)
def F_strings_trimRightUnicode_b0 (fu : Nat) (r0 : x51t0) : x51t0 := fun s0 s1 => bif decide ((0 : Int) < (List.length s0 : Int)) then (idx s0 (w64 ((List.length s0 : Int) - (1 : Int)))).bind fun c1 => bif decide ((128 : Int) ≤ (c1.toNat : Int)) then (F_unicode_utf8_DecodeLastRuneInString fu s0).bind fun x2 => (F_strings_ContainsRune fu s1 x2.1).bind fun x3 => bif !x3 then some s0 else bif decide (0 ≤ w64 ((List.length s0 : Int) - x2.2) ∧ w64 ((List.length s0 : Int) - x2.2) ≤ (List.length s0 : Int)) then r0 (List.take (w64 ((List.length s0 : Int) - x2.2)).toNat s0) s1 else none else (F_strings_ContainsRune fu s1 (c1.toNat : Int)).bind fun x4 => bif !x4 then some s0 else bif decide (0 ≤ w64 ((List.length s0 : Int) - (1 : Int)) ∧ w64 ((List.length s0 : Int) - (1 : Int)) ≤ (List.length s0 : Int)) then r0 (List.take (w64 ((List.length s0 : Int) - (1 : Int))).toNat s0) s1 else none else some s0
def F_strings_trimRightUnicode_p0 (fu : Nat) : Nat → x51t0 | 0 => fun _ _ => none | n + 1 => F_strings_trimRightUnicode_b0 fu (F_strings_trimRightUnicode_p0 fu n)
def F_strings_trimRightUnicode (fu : Nat) (p0 : Bs) (p1 : Bs) : Option (Bs) := F_strings_trimRightUnicode_p0 fu fu p0 p1
/- strings.TrimRight -/
abbrev x52t3 : Type := Bs → Bs → Option (Bs)
abbrev x52t2 : Type := Bs → Bs → Bool → Option (Bs)
abbrev x52t1 : Type := Bs → Bs → Option (Bs)
abbrev x52t0 : Type := Bs → Bs → Bool → Option (Bs)
def F_strings_TrimRight_p3 (fu : Nat) : x52t3 := fun s0 s1 => (F_strings_makeASCIISet fu s1).bind fun x1 => bif decide (List.length x1.1 = List.length (List.replicate 256 false)) && decide (List.length x1.1 = 256) then bif x1.2 then (F_strings_trimRightASCII fu s0 x1.1).bind fun x2 => some x2.1 else (F_strings_trimRightUnicode fu s0 s1).bind fun x3 => some x3 else none
def F_strings_TrimRight_p2 (fu : Nat) : x52t2 := fun s0 s1 s21 => bif s21 then (idx s1 (0 : Int)).bind fun c1 => (F_strings_trimRightByte fu s0 c1).bind fun x2 => some x2 else F_strings_TrimRight_p3 fu s0 s1
def F_strings_TrimRight_p1 (fu : Nat) : x52t1 := fun s0 s1 => bif (List.length s1 : Int) == (1 : Int) then (idx s1 (0 : Int)).bind fun c1 => F_strings_TrimRight_p2 fu s0 s1 (decide (c1 < (128 : UInt8))) else F_strings_TrimRight_p2 fu s0 s1 false
def F_strings_TrimRight_p0 (fu : Nat) : x52t0 := fun s0 s1 s12 => bif s12 then some s0 else F_strings_TrimRight_p1 fu s0 s1
def F_strings_TrimRight (fu : Nat) (p0 : Bs) (p1 : Bs) : Option (Bs) := bif p0 == ([] : Bs) then F_strings_TrimRight_p0 fu p0 p1 true else F_strings_TrimRight_p0 fu p0 p1 (p1 == ([] : Bs))
/- posthouse/parts.kind -/
def F_parts_kind (fu : Nat) (p0 : Bs) (p1 : Bs) : Option Int := (F_strings_TrimRight fu p0 ([32, 9] : Bs)).bind fun x1 => bif decide (List.length ([45, 45] : Bs) + List.length p1 ≤ strMax) then bif x1 == (([45, 45] : Bs) ++ p1) then some (1 : Int) else bif decide (List.length ([45, 45] : Bs) + List.length p1 ≤ strMax) then bif decide (List.length (([45, 45] : Bs) ++ p1) + List.length ([45, 45] : Bs) ≤ strMax) then bif x1 == ((([45, 45] : Bs) ++ p1) ++ ([45, 45] : Bs)) then some (2 : Int) else some (0 : Int) else none else none else none
/- posthouse/parts.contained (a round) -/
abbrev R_parts_contained_r1 : Type := (Bs × Bs × Int × (List Bs) × (List Bs)) ⊕ (Bs × Bs × Int × (List Bs))
def F_parts_contained_r1 (fu : Nat) (p0 : Int) (p1 : Bs) (p2 : Bs) (p3 : Bs) (p4 : Int) (p5 : List Bs) (p6 : List Bs) : Option R_parts_contained_r1 := (F_parts_kind fu p1 p3).bind fun x1 => bif x1 == (0 : Int) then some (.inl (p2, (p3, (p4, (p5, p6))))) else bif decide ((0 : Int) ≤ p4) then bif decide (0 ≤ p4 ∧ p4 ≤ (if w64 (p0 - (2 : Int)) > p4 then w64 (p0 - (2 : Int)) else p4) ∧ (if w64 (p0 - (2 : Int)) > p4 then w64 (p0 - (2 : Int)) else p4) ≤ (List.length p2 : Int)) then bif decide (List.length (p6 ++ ([List.take ((if w64 (p0 - (2 : Int)) > p4 then w64 (p0 - (2 : Int)) else p4).toNat - p4.toNat) (List.drop p4.toNat p2)] : List Bs)) ≤ rowMax) then bif x1 == (2 : Int) then some (.inr (p2, (p3, (p4, p6 ++ ([List.take ((if w64 (p0 - (2 : Int)) > p4 then w64 (p0 - (2 : Int)) else p4).toNat - p4.toNat) (List.drop p4.toNat p2)] : List Bs))))) else some (.inl (p2, (p3, (if (List.length p2 : Int) < w64 ((w64 (p0 + (List.length p1 : Int))) + (2 : Int)) then (List.length p2 : Int) else w64 ((w64 (p0 + (List.length p1 : Int))) + (2 : Int)), (p5, p6 ++ ([List.take ((if w64 (p0 - (2 : Int)) > p4 then w64 (p0 - (2 : Int)) else p4).toNat - p4.toNat) (List.drop p4.toNat p2)] : List Bs)))))) else none else none else bif x1 == (2 : Int) then some (.inr (p2, (p3, (p4, p6)))) else some (.inl (p2, (p3, (if (List.length p2 : Int) < w64 ((w64 (p0 + (List.length p1 : Int))) + (2 : Int)) then (List.length p2 : Int) else w64 ((w64 (p0 + (List.length p1 : Int))) + (2 : Int)), (p5, p6)))))
/- posthouse/parts.lines$1 -/
abbrev R_parts_lines_1 : Type := (Bs × Bs × Bs × Int × (List Bs)) ⊕ (Bs × Bs × Bs × Int × (List Bs) × (List Bs))
abbrev x55t0 : Type := Int → Bs → Bs → Bs → Int → (List Bs) → (List Bs) → Option R_parts_lines_1
def F_parts_lines_1_b0 (fu : Nat) (r0 : x55t0) : x55t0 := fun s3 m1 m2 m3 m6 m32 m33 => bif decide (s3 < (List.length m1 : Int)) then bif decide (0 ≤ s3 ∧ s3 ≤ (List.length m1 : Int)) then bif decide (0 < List.length ([(13 : UInt8), (10 : UInt8)] : Bs)) then (F_bytes_Index (List.drop s3.toNat m1) ([(13 : UInt8), (10 : UInt8)] : Bs)).bind fun x1 => bif decide ((0 : Int) ≤ x1) then bif decide (0 ≤ s3 ∧ s3 ≤ w64 (s3 + x1) ∧ w64 (s3 + x1) ≤ (List.length m1 : Int)) then (F_parts_contained_r1 fu s3 (List.take ((w64 (s3 + x1)).toNat - s3.toNat) (List.drop s3.toNat m1)) m2 m3 m6 m32 m33).bind fun x2 => sumK x2 (fun a3 => r0 (w64 ((w64 (s3 + x1)) + (2 : Int))) m1 a3.1 a3.2.1 a3.2.2.1 a3.2.2.2.1 a3.2.2.2.2) (fun b4 => some (.inl (m1, b4))) else none else bif decide (0 ≤ s3 ∧ s3 ≤ (List.length m1 : Int) ∧ (List.length m1 : Int) ≤ (List.length m1 : Int)) then (F_parts_contained_r1 fu s3 (List.take ((List.length m1 : Int).toNat - s3.toNat) (List.drop s3.toNat m1)) m2 m3 m6 m32 m33).bind fun x5 => sumK x5 (fun a6 => r0 (List.length m1 : Int) m1 a6.1 a6.2.1 a6.2.2.1 a6.2.2.2.1 a6.2.2.2.2) (fun b7 => some (.inl (m1, b7))) else none else none else none else some (.inr (m1, (m2, (m3, (m6, (m32, m33))))))
def F_parts_lines_1_p0 (fu : Nat) : Nat → x55t0 | 0 => fun _ _ _ _ _ _ _ => none | n + 1 => F_parts_lines_1_b0 fu (F_parts_lines_1_p0 fu n)
def F_parts_lines_1 (fu : Nat) (p0 : Bs) (p1 : Bs) (p2 : Bs) (p3 : Int) (p4 : List Bs) (p5 : List Bs) : Option R_parts_lines_1 := F_parts_lines_1_p0 fu fu (0 : Int) p0 p1 p2 p3 p4 p5
/- posthouse/parts.contained -/
def F_parts_contained (fu : Nat) (p0 : Bs) (p1 : Bs) : Option ((List Bs)) := (F_parts_lines p0).bind fun x1 => (F_parts_lines_1 fu x1 p0 p1 (-1 : Int) [] []).bind fun x2 => sumK x2 (fun a3 => some a3.2.2.2.2) (fun b4 => bif decide ((0 : Int) ≤ b4.2.2.2.1) then bif decide (0 ≤ b4.2.2.2.1 ∧ b4.2.2.2.1 ≤ (List.length b4.2.1 : Int)) then bif decide (List.length (b4.2.2.2.2.2 ++ ([List.drop b4.2.2.2.1.toNat b4.2.1] : List Bs)) ≤ rowMax) then some (b4.2.2.2.2.2 ++ ([List.drop b4.2.2.2.1.toNat b4.2.1] : List Bs)) else none else none else some b4.2.2.2.2.2)
/- posthouse/parts.inner -/
def F_parts_inner (fu : Nat) (p0 : List (Bs × Bs)) (p1 : Bs) (p2 : Int) : Option ((List Bs)) := (F_parts_boundary fu p0).bind fun x1 => bif !x1.2 then some [] else bif decide ((8 : Int) ≤ p2) then some [] else (F_parts_contained fu p1 x1.1).bind fun x2 => some x2
/- posthouse/parts.bare$1 -/
def F_parts_bare_1 (fu : Nat) (p0 : Bs × Bs) : Option Bool := (F_basic_Same fu p0.1 ([98, 111, 117, 110, 100, 97, 114, 121] : Bs)).bind fun x1 => some x1
/- slices.IndexFunc[[]posthouse/api.Param,posthouse/api.Param] -/
abbrev x59t0 : Type := (List (Bs × Bs)) → Int → Int → Option Int
def F_slices_IndexFunc_api_Param_api_Param_b0 (fu : Nat) (r0 : x59t0) : x59t0 := fun s0 s7 s8 => bif decide (s8 < s7) then (idx s0 s8).bind fun y1 => (F_parts_bare_1 fu y1).bind fun x2 => bif x2 then some s8 else r0 s0 s7 (w64 (s8 + (1 : Int))) else some (-1 : Int)
def F_slices_IndexFunc_api_Param_api_Param_p0 (fu : Nat) : Nat → x59t0 | 0 => fun _ _ _ => none | n + 1 => F_slices_IndexFunc_api_Param_api_Param_b0 fu (F_slices_IndexFunc_api_Param_api_Param_p0 fu n)
def F_slices_IndexFunc_api_Param_api_Param (fu : Nat) (p0 : List (Bs × Bs)) : Option Int := F_slices_IndexFunc_api_Param_api_Param_p0 fu fu p0 (List.length p0 : Int) (0 : Int)
/- slices.DeleteFunc[[]posthouse/api.Param,posthouse/api.Param] -/
abbrev x60t0 : Type := (List (Bs × Bs)) → Int → Int → Option ((List (Bs × Bs)))
def F_slices_DeleteFunc_api_Param_api_Param_b0 (fu : Nat) (r0 : x60t0) : x60t0 := fun s0 s5 s6 => bif decide (s6 < (List.length s0 : Int)) then (idx s0 s6).bind fun y1 => (F_parts_bare_1 fu y1).bind fun x2 => bif !x2 then (idx s0 s5).bind fun y3 => none else r0 s0 s5 (w64 (s6 + (1 : Int))) else bif decide (0 ≤ s5 ∧ s5 ≤ (List.length s0 : Int)) then none else none
def F_slices_DeleteFunc_api_Param_api_Param_p0 (fu : Nat) : Nat → x60t0 | 0 => fun _ _ _ => none | n + 1 => F_slices_DeleteFunc_api_Param_api_Param_b0 fu (F_slices_DeleteFunc_api_Param_api_Param_p0 fu n)
def F_slices_DeleteFunc_api_Param_api_Param (fu : Nat) (p0 : List (Bs × Bs)) : Option ((List (Bs × Bs))) := (F_slices_IndexFunc_api_Param_api_Param fu p0).bind fun x1 => bif x1 == (-1 : Int) then some p0 else F_slices_DeleteFunc_api_Param_api_Param_p0 fu fu p0 x1 (w64 (x1 + (1 : Int)))
/- (*posthouse/parts.splitter).part -/
abbrev R_parts_splitter_part : Type := (Tree ((List (Bs × Bs)) × Bs)) × Bool × (Int × Int × Int)
def F_parts_splitter_part (fu : Nat) (p0 : List (Bs × Bs)) (p1 : Bs) (p2 : Int) (p3 : Int × Int × Int) : Option R_parts_splitter_part := (F_slices_Clone p0).bind fun x1 => (F_slices_Clone p1).bind fun x2 => (F_parts_inner fu p0 p1 p2).bind fun x3 => bif (List.length x3 : Int) == (0 : Int) then some ((Tree.node (x1, x2) []), (true, (w64 (p3.1 + (1 : Int)), p3.2))) else none
/- posthouse/parts.each -/
abbrev R_parts_each : Type := (Tree ((List (Bs × Bs)) × Bs))
def F_parts_each (p0 : Tree ((List (Bs × Bs)) × Bs)) : Option R_parts_each := some (Tree.node p0.val p0.kids)
/- posthouse/parts.Validate (a round) -/
abbrev R_parts_Validate_r2 : Type := ((Int × Int) × Bool) ⊕ ((Int × Int) × Bool)
def F_parts_Validate_r2 (p0 : Int) (p1 : List (Bs × Bs)) (p2 : Bs) (p3 : List (Tree ((List (Bs × Bs)) × Bs))) (p4 : Int) (p5 : Int × Int) (p6 : Bool) : Option R_parts_Validate_r2 := bif decide ((40 : Int) ≤ p0) then (F_basic_Fault (2 : Int) (-1 : Int)).bind fun x1 => some (.inl (x1, p6)) else bif p6 then some (.inr (p5, true)) else some (.inr (p5, decide ((8 : Int) < p4)))
/- posthouse/parts.each$1$1 -/
abbrev R_parts_each_1_1 : Type := (Int × (Int × Int) × Bool) ⊕ (Int × (Int × Int) × Bool)
abbrev x64T : Type := (Tree ((List (Bs × Bs)) × Bs)) → Int → Int → (Int × Int) → Bool → Option R_parts_each_1_1
abbrev x64t0 : Type := Int → (List (Tree ((List (Bs × Bs)) × Bs))) → Int → Int → Int → (Int × Int) → Bool → Option R_parts_each_1_1
def F_parts_each_1_1_b0 (rs71 : x64T) (fu : Nat) (r0 : x64t0) : x64t0 := fun s1 s20 s21 s22 m1 m4 m5 => bif decide (s22 < s21) then (idx s20 s22).bind fun y1 => (rs71 (Tree.node y1.val y1.kids) (w64 (s1 + (1 : Int))) m1 m4 m5).bind fun x2 => sumK x2 (fun a3 => some (.inl a3)) (fun b4 => r0 s1 s20 s21 (w64 (s22 + (1 : Int))) b4.1 b4.2.1 b4.2.2) else some (.inr (m1, (m4, m5)))
def F_parts_each_1_1_p0 (rs71 : x64T) (fu : Nat) : Nat → x64t0 | 0 => fun _ _ _ _ _ _ _ => none | n + 1 => F_parts_each_1_1_b0 rs71 fu (F_parts_each_1_1_p0 rs71 fu n)
def F_parts_each_1_1_b (rs71 : x64T) (fu : Nat) (p0 : Tree ((List (Bs × Bs)) × Bs)) (p1 : Int) (p2 : Int) (p3 : Int × Int) (p4 : Bool) : Option R_parts_each_1_1 := (F_parts_Validate_r2 p2 p0.val.1 p0.val.2 p0.kids p1 p3 p4).bind fun x1 => sumK x1 (fun a2 => some (.inl (p2, a2))) (fun b3 => F_parts_each_1_1_p0 rs71 fu fu p1 p0.kids (List.length p0.kids : Int) (0 : Int) (w64 (p2 + (1 : Int))) b3.1 b3.2)
def F_parts_each_1_1_n (fu : Nat) : Nat → x64T | 0 => fun _ _ _ _ _ => none | n + 1 => F_parts_each_1_1_b (F_parts_each_1_1_n fu n) fu
def F_parts_each_1_1 (fu : Nat) (p0 : Tree ((List (Bs × Bs)) × Bs)) (p1 : Int) (p2 : Int) (p3 : Int × Int) (p4 : Bool) : Option R_parts_each_1_1 := F_parts_each_1_1_n fu fu p0 p1 p2 p3 p4
/- posthouse/parts.each$1 -/
abbrev R_parts_each_1 : Type := ((Tree ((List (Bs × Bs)) × Bs)) × (Int × Int) × Bool) ⊕ ((Tree ((List (Bs × Bs)) × Bs)) × (Int × Int) × Bool)
def F_parts_each_1 (fu : Nat) (p0 : Tree ((List (Bs × Bs)) × Bs)) (p1 : Int × Int) (p2 : Bool) : Option R_parts_each_1 := (F_parts_each_1_1 fu (Tree.node p0.val p0.kids) (0 : Int) (0 : Int) p1 p2).bind fun x1 => sumK x1 (fun a2 => some (.inl ((Tree.node p0.val p0.kids), a2.2))) (fun b3 => some (.inr ((Tree.node p0.val p0.kids), b3.2)))
/- posthouse/parts.whole -/
abbrev x66t1 : Type := Int → (Tree ((List (Bs × Bs)) × Bs)) → Bs → Bs → Option Int
abbrev x66t0 : Type := Int → Bool → (Tree ((List (Bs × Bs)) × Bs)) → Bs → Bs → Option Int
def F_parts_whole_p1 (fu : Nat) : x66t1 := fun s4 m32 m33_0 m33_1 => none
def F_parts_whole_p0 (fu : Nat) : x66t0 := fun s4 s31 m32 m33_0 m33_1 => bif s31 then some (5 : Int) else F_parts_whole_p1 fu s4 (Tree.node m32.val m32.kids) m33_0 m33_1
def F_parts_whole (fu : Nat) (p0 : Tree ((List (Bs × Bs)) × Bs)) : Option Int := (F_parts_Type fu p0.val.1).bind fun x1 => bif decide ((0 : Int) < (List.length p0.val.2 : Int)) then F_parts_whole_p0 fu x1.2.2.1 true (Tree.node p0.val p0.kids) x1.1 x1.2.1 else bif !x1.2.2.2 then F_parts_whole_p0 fu x1.2.2.1 true (Tree.node p0.val p0.kids) x1.1 x1.2.1 else (F_basic_Same fu x1.1 ([109, 117, 108, 116, 105, 112, 97, 114, 116] : Bs)).bind fun x2 => F_parts_whole_p0 fu x1.2.2.1 (!x2) (Tree.node p0.val p0.kids) x1.1 x1.2.1
/- posthouse/parts.check -/
def F_parts_check (fu : Nat) (p0 : (Tree ((List (Bs × Bs)) × Bs)) × Int) : Option Int := (F_header_Validate fu p0.1.val.1).bind fun x1 => (F_basic_Failed x1).bind fun x2 => bif x2 then some x1.1 else bif decide ((0 : Int) < (List.length p0.1.kids : Int)) then (F_parts_whole fu (Tree.node p0.1.val p0.1.kids)).bind fun x3 => some x3 else bif decide ((12000 : Int) < (List.length p0.1.val.2 : Int)) then some (1 : Int) else (F_basic_Body fu p0.1.val.2).bind fun x4 => bif x4 != (0 : Int) then some x4 else (F_parts_inner fu p0.1.val.1 p0.1.val.2 p0.2).bind fun x5 => bif decide ((0 : Int) < (List.length x5 : Int)) then some (5 : Int) else some (0 : Int)
/- posthouse/parts.Validate (a round) -/
def F_parts_Validate_r3 (fu : Nat) (p0 : Int) (p1 : List (Bs × Bs)) (p2 : Bs) (p3 : List (Tree ((List (Bs × Bs)) × Bs))) (p4 : Int) (p5 : Int × Int) : Option (((Int × Int)) ⊕ ((Int × Int))) := (F_parts_check fu ((Tree.node (p1, p2) p3), p4)).bind fun x1 => bif x1 != (0 : Int) then (F_basic_Fault x1 p0).bind fun x2 => some (.inl x2) else some (.inr p5)
/- posthouse/parts.each$1$1 -/
abbrev R_parts_each_1_1_v1 : Type := (Int × (Int × Int)) ⊕ (Int × (Int × Int))
abbrev x69T : Type := (Tree ((List (Bs × Bs)) × Bs)) → Int → Int → (Int × Int) → Option R_parts_each_1_1_v1
abbrev x69t0 : Type := Int → (List (Tree ((List (Bs × Bs)) × Bs))) → Int → Int → Int → (Int × Int) → Option R_parts_each_1_1_v1
def F_parts_each_1_1_v1_b0 (rs74 : x69T) (fu : Nat) (r0 : x69t0) : x69t0 := fun s1 s20 s21 s22 m1 m4 => bif decide (s22 < s21) then (idx s20 s22).bind fun y1 => (rs74 (Tree.node y1.val y1.kids) (w64 (s1 + (1 : Int))) m1 m4).bind fun x2 => sumK x2 (fun a3 => some (.inl a3)) (fun b4 => r0 s1 s20 s21 (w64 (s22 + (1 : Int))) b4.1 b4.2) else some (.inr (m1, m4))
def F_parts_each_1_1_v1_p0 (rs74 : x69T) (fu : Nat) : Nat → x69t0 | 0 => fun _ _ _ _ _ _ => none | n + 1 => F_parts_each_1_1_v1_b0 rs74 fu (F_parts_each_1_1_v1_p0 rs74 fu n)
def F_parts_each_1_1_v1_b (rs74 : x69T) (fu : Nat) (p0 : Tree ((List (Bs × Bs)) × Bs)) (p1 : Int) (p2 : Int) (p3 : Int × Int) : Option R_parts_each_1_1_v1 := (F_parts_Validate_r3 fu p2 p0.val.1 p0.val.2 p0.kids p1 p3).bind fun x1 => sumK x1 (fun a2 => some (.inl (p2, a2))) (fun b3 => F_parts_each_1_1_v1_p0 rs74 fu fu p1 p0.kids (List.length p0.kids : Int) (0 : Int) (w64 (p2 + (1 : Int))) b3)
def F_parts_each_1_1_v1_n (fu : Nat) : Nat → x69T | 0 => fun _ _ _ _ => none | n + 1 => F_parts_each_1_1_v1_b (F_parts_each_1_1_v1_n fu n) fu
def F_parts_each_1_1_v1 (fu : Nat) (p0 : Tree ((List (Bs × Bs)) × Bs)) (p1 : Int) (p2 : Int) (p3 : Int × Int) : Option R_parts_each_1_1_v1 := F_parts_each_1_1_v1_n fu fu p0 p1 p2 p3
/- posthouse/parts.each$1 -/
abbrev R_parts_each_1_v1 : Type := ((Tree ((List (Bs × Bs)) × Bs)) × (Int × Int)) ⊕ ((Tree ((List (Bs × Bs)) × Bs)) × (Int × Int))
def F_parts_each_1_v1 (fu : Nat) (p0 : Tree ((List (Bs × Bs)) × Bs)) (p1 : Int × Int) : Option R_parts_each_1_v1 := (F_parts_each_1_1_v1 fu (Tree.node p0.val p0.kids) (0 : Int) (0 : Int) p1).bind fun x1 => sumK x1 (fun a2 => some (.inl ((Tree.node p0.val p0.kids), a2.2))) (fun b3 => some (.inr ((Tree.node p0.val p0.kids), b3.2)))
/- posthouse/parts.Validate -/
def F_parts_Validate (fu : Nat) (p0 : Tree ((List (Bs × Bs)) × Bs)) : Option ((Int × Int)) := (F_parts_each (Tree.node p0.val p0.kids)).bind fun x1 => (F_parts_each_1 fu (Tree.node x1.val x1.kids) ((0 : Int), (0 : Int)) false).bind fun x2 => sumK x2 (fun a3 => some a3.2.1) (fun b4 => bif b4.2.2 then (F_basic_Fault (2 : Int) (-2 : Int)).bind fun x5 => some x5 else (F_parts_each (Tree.node p0.val p0.kids)).bind fun x6 => (F_parts_each_1_v1 fu (Tree.node x6.val x6.kids) b4.2.1).bind fun x7 => sumK x7 (fun a8 => some a8.2) (fun b9 => (F_basic_None).bind fun x10 => some x10))
/- posthouse/parts.Split -/
abbrev R_parts_Split : Type := (Tree ((List (Bs × Bs)) × Bs)) × (Int × Int)
def F_parts_Split (fu : Nat) (p0 : (List (Bs × Bs)) × Bs) : Option R_parts_Split := (F_message_Validate fu p0).bind fun x1 => (F_basic_Failed x1).bind fun x2 => bif x2 then some ((Tree.node ([], []) []), x1) else (F_parts_splitter_part fu p0.1 p0.2 (0 : Int) ((0 : Int), ((0 : Int), (0 : Int)))).bind fun x3 => bif !x3.2.1 then some ((Tree.node ([], []) []), x3.2.2.2) else (F_parts_Validate fu (Tree.node x3.1.val x3.1.kids)).bind fun x4 => (F_basic_Failed x4).bind fun x5 => bif x5 then (F_basic_Fault x4.1 (-9 : Int)).bind fun x6 => some ((Tree.node ([], []) []), x6) else (F_basic_None).bind fun x7 => some ((Tree.node x3.1.val x3.1.kids), x7)
/- posthouse/parts.Each -/
abbrev R_parts_Each : Type := (Tree ((List (Bs × Bs)) × Bs))
def F_parts_Each (p0 : Tree ((List (Bs × Bs)) × Bs)) : Option R_parts_Each := some (Tree.node p0.val p0.kids)
/- posthouse/transfer.plain -/
def F_transfer_plain (p0 : Bs) (p1 : UInt8) : Option (Bs × UInt8) := some (p0, p1)
/- posthouse/transfer.find -/
abbrev R_transfer_find : Type := (Bs × Bool × UInt8) ⊕ ((Bs × Bool) ⊕ ((Bs × Bool) ⊕ (Bs × Bool)))
def F_transfer_find (fu : Nat) (p0 : Bs) : Option R_transfer_find := (F_transfer_plain ([55, 98, 105, 116] : Bs) (127 : UInt8)).bind fun x1 => (F_transfer_plain ([56, 98, 105, 116] : Bs) (255 : UInt8)).bind fun x2 => (F_basic_Same fu x1.1 p0).bind fun x3 => bif x3 then some (.inl (x1.1, (true, x1.2))) else (F_basic_Same fu x2.1 p0).bind fun x4 => bif x4 then some (.inl (x2.1, (true, x2.2))) else (F_basic_Same fu ([98, 97, 115, 101, 54, 52] : Bs) p0).bind fun x5 => bif x5 then some (.inr (.inl (([98, 97, 115, 101, 54, 52] : Bs), true))) else (F_basic_Same fu ([113, 117, 111, 116, 101, 100, 45, 112, 114, 105, 110, 116, 97, 98, 108, 101] : Bs) p0).bind fun x6 => bif x6 then some (.inr (.inr (.inl (([113, 117, 111, 116, 101, 100, 45, 112, 114, 105, 110, 116, 97, 98, 108, 101] : Bs), true)))) else some (.inr (.inr (.inr (([] : Bs), false))))
/- posthouse/transfer.valid -/
abbrev R_transfer_valid : Type := (Bs × (Int × Int) × UInt8) ⊕ ((Bs × (Int × Int)) ⊕ ((Bs × (Int × Int)) ⊕ (Bs × (Int × Int))))
def F_transfer_valid (fu : Nat) (p0 : Bs) (p1 : Bs) : Option R_transfer_valid := (F_transfer_find fu p1).bind fun x1 => sumK x1 (fun a2 => bif !a2.2.1 then (F_basic_Fault (18 : Int) (-3 : Int)).bind fun x8 => some (.inl (a2.1, (x8, a2.2.2))) else bif decide ((12000 : Int) < (List.length p0 : Int)) then (F_basic_Fault (1 : Int) (-1 : Int)).bind fun x9 => some (.inl (a2.1, (x9, a2.2.2))) else (F_basic_None).bind fun x10 => some (.inl (a2.1, (x10, a2.2.2)))) (fun b3 => sumK b3 (fun a4 => bif !a4.2 then (F_basic_Fault (18 : Int) (-3 : Int)).bind fun x11 => some (.inr (.inl (a4.1, x11))) else bif decide ((12000 : Int) < (List.length p0 : Int)) then (F_basic_Fault (1 : Int) (-1 : Int)).bind fun x12 => some (.inr (.inl (a4.1, x12))) else (F_basic_None).bind fun x13 => some (.inr (.inl (a4.1, x13)))) (fun b5 => sumK b5 (fun a6 => bif !a6.2 then (F_basic_Fault (18 : Int) (-3 : Int)).bind fun x14 => some (.inr (.inr (.inl (a6.1, x14)))) else bif decide ((12000 : Int) < (List.length p0 : Int)) then (F_basic_Fault (1 : Int) (-1 : Int)).bind fun x15 => some (.inr (.inr (.inl (a6.1, x15)))) else (F_basic_None).bind fun x16 => some (.inr (.inr (.inl (a6.1, x16))))) (fun b7 => bif !b7.2 then (F_basic_Fault (18 : Int) (-3 : Int)).bind fun x17 => some (.inr (.inr (.inr (b7.1, x17)))) else bif decide ((12000 : Int) < (List.length p0 : Int)) then (F_basic_Fault (1 : Int) (-1 : Int)).bind fun x18 => some (.inr (.inr (.inr (b7.1, x18)))) else (F_basic_None).bind fun x19 => some (.inr (.inr (.inr (b7.1, x19)))))))
/- posthouse/transfer.copied -/
def F_transfer_copied (p0 : Bs) : Option ((Int × Int) × Bs) := bif decide (List.length p0 ≤ rowMax) then (F_basic_None).bind fun x1 => some (x1, p0) else none
/- posthouse/transfer.Decode -/
def F_transfer_Decode (fu : Nat) (p0 : Bs) (p1 : Bs) : Option ((Int × Int) × Bs) := (F_transfer_valid fu p0 p1).bind fun x1 => sumK x1 (fun a2 => (F_basic_Failed a2.2.1).bind fun x8 => bif x8 then some (a2.2.1, []) else (F_transfer_copied p0).bind fun x9 => some x9) (fun b3 => sumK b3 (fun a4 => (F_basic_Failed a4.2).bind fun x10 => bif x10 then some (a4.2, []) else none) (fun b5 => sumK b5 (fun a6 => (F_basic_Failed a6.2).bind fun x11 => bif x11 then some (a6.2, []) else none) (fun b7 => (F_basic_Failed b7.2).bind fun x12 => bif x12 then some (b7.2, []) else none)))
/- posthouse/view.Content -/
abbrev x79t0 : Type := (List (Bs × Bs)) → Int → Int → (Tree ((List (Bs × Bs)) × Bs)) → Option (Bs)
def F_view_Content_b0 (fu : Nat) (r0 : x79t0) : x79t0 := fun s10 s11 s12 m32 => bif decide (s12 < s11) then (idx s10 s12).bind fun y1 => (F_basic_Same fu y1.1 ([67, 111, 110, 116, 101, 110, 116, 45, 84, 114, 97, 110, 115, 102, 101, 114, 45, 69, 110, 99, 111, 100, 105, 110, 103] : Bs)).bind fun x2 => bif !x2 then r0 s10 s11 (w64 (s12 + (1 : Int))) (Tree.node m32.val m32.kids) else (F_transfer_Decode fu m32.val.2 y1.2).bind fun x3 => bif x3.1.1 != (18 : Int) then some x3.2 else r0 s10 s11 (w64 (s12 + (1 : Int))) (Tree.node m32.val m32.kids) else (F_transfer_Decode fu m32.val.2 ([55, 98, 105, 116] : Bs)).bind fun x4 => some x4.2
def F_view_Content_p0 (fu : Nat) : Nat → x79t0 | 0 => fun _ _ _ _ => none | n + 1 => F_view_Content_b0 fu (F_view_Content_p0 fu n)
def F_view_Content (fu : Nat) (p0 : Tree ((List (Bs × Bs)) × Bs)) : Option (Bs) := F_view_Content_p0 fu fu p0.val.1 (List.length p0.val.1 : Int) (0 : Int) (Tree.node p0.val p0.kids)

/- posthouse/canonical.Form (a round) -/
abbrev x80t3 : Type := (List (Bs × Bs)) → Int → Int → (Tree ((List (Bs × Bs)) × Bs)) → Bs → Bs → Option (Bs)
abbrev x80t1 : Type := (List (Bs × Bs)) → Int → Int → Bool → (Tree ((List (Bs × Bs)) × Bs)) → (Bs × Bs) → Bs → Bs → Option (Bs)
abbrev x80t2 : Type := (Tree ((List (Bs × Bs)) × Bs)) → Bs → Bs → Bs → Option (Bs)
abbrev x80t0 : Type := (List (Bs × Bs)) → Int → Int → (Tree ((List (Bs × Bs)) × Bs)) → Bs → Bs → Option (Bs)
def F_canonical_Form_r4_p3 (fu : Nat) (r0 : x80t0) : x80t3 := fun s27 s28 s29 m32 m33 m34 => r0 s27 s28 (w64 (s29 + (1 : Int))) (Tree.node m32.val m32.kids) m34 m33
def F_canonical_Form_r4_p1 (fu : Nat) (r0 : x80t0) : x80t1 := fun s27 s28 s29 s42 m32 m33 m34 m35 => bif s42 then (F_canonical_field fu m33).bind fun x1 => bif decide (List.length (m35 ++ x1) ≤ rowMax) then F_canonical_Form_r4_p3 fu r0 s27 s28 s29 (Tree.node m32.val m32.kids) (m35 ++ x1) m34 else none else F_canonical_Form_r4_p3 fu r0 s27 s28 s29 (Tree.node m32.val m32.kids) m35 m34
def F_canonical_Form_r4_p2 (fu : Nat) : x80t2 := fun m32 m33 m34 m35 => (F_strconv_Itoa (List.length m32.kids : Int)).bind fun x1 => bif decide (List.length x1 + List.length ([32] : Bs) ≤ strMax) then (F_strconv_Itoa (List.length m35 : Int)).bind fun x2 => bif decide (List.length (x1 ++ ([32] : Bs)) + List.length x2 ≤ strMax) then bif decide (List.length ((x1 ++ ([32] : Bs)) ++ x2) + List.length ([32] : Bs) ≤ strMax) then (F_strconv_Itoa (List.length m33 : Int)).bind fun x3 => bif decide (List.length (((x1 ++ ([32] : Bs)) ++ x2) ++ ([32] : Bs)) + List.length x3 ≤ strMax) then bif decide (List.length ((((x1 ++ ([32] : Bs)) ++ x2) ++ ([32] : Bs)) ++ x3) + List.length ([13, 10] : Bs) ≤ strMax) then bif decide (List.length (m34 ++ (((((x1 ++ ([32] : Bs)) ++ x2) ++ ([32] : Bs)) ++ x3) ++ ([13, 10] : Bs))) ≤ rowMax) then bif decide (List.length ((m34 ++ (((((x1 ++ ([32] : Bs)) ++ x2) ++ ([32] : Bs)) ++ x3) ++ ([13, 10] : Bs))) ++ m35) ≤ rowMax) then bif decide (List.length (((m34 ++ (((((x1 ++ ([32] : Bs)) ++ x2) ++ ([32] : Bs)) ++ x3) ++ ([13, 10] : Bs))) ++ m35) ++ m33) ≤ rowMax) then some (((m34 ++ (((((x1 ++ ([32] : Bs)) ++ x2) ++ ([32] : Bs)) ++ x3) ++ ([13, 10] : Bs))) ++ m35) ++ m33) else none else none else none else none else none else none else none else none
def F_canonical_Form_r4_b0 (fu : Nat) (r0 : x80t0) : x80t0 := fun s27 s28 s29 m32 m33 m34 => bif decide (s29 < s28) then (idx s27 s29).bind fun y1 => (F_basic_Same fu y1.1 ([82, 101, 99, 101, 105, 118, 101, 100] : Bs)).bind fun x2 => bif !x2 then (F_basic_Same fu y1.1 ([67, 111, 110, 116, 101, 110, 116, 45, 84, 114, 97, 110, 115, 102, 101, 114, 45, 69, 110, 99, 111, 100, 105, 110, 103] : Bs)).bind fun x3 => F_canonical_Form_r4_p1 fu r0 s27 s28 s29 (!x3) (Tree.node m32.val m32.kids) y1 m33 m34 else F_canonical_Form_r4_p1 fu r0 s27 s28 s29 false (Tree.node m32.val m32.kids) y1 m33 m34 else bif (List.length m32.kids : Int) == (0 : Int) then (F_view_Content fu (Tree.node m32.val m32.kids)).bind fun x4 => (F_canonical_body fu x4).bind fun x5 => F_canonical_Form_r4_p2 fu (Tree.node m32.val m32.kids) x5 m33 m34 else F_canonical_Form_r4_p2 fu (Tree.node m32.val m32.kids) [] m33 m34
def F_canonical_Form_r4_p0 (fu : Nat) : Nat → x80t0 | 0 => fun _ _ _ _ _ _ => none | n + 1 => F_canonical_Form_r4_b0 fu (F_canonical_Form_r4_p0 fu n)
def F_canonical_Form_r4 (fu : Nat) (p0 : Int) (p1 : List (Bs × Bs)) (p2 : Bs) (p3 : List (Tree ((List (Bs × Bs)) × Bs))) (p4 : Bs) : Option (Bs) := F_canonical_Form_r4_p0 fu fu p1 (List.length p1 : Int) (0 : Int) (Tree.node (p1, p2) p3) p4 []
/- posthouse/parts.Each$1 (a round) -/
def F_parts_Each_1_r5 (fu : Nat) (p0 : Int) (p1 : List (Bs × Bs)) (p2 : Bs) (p3 : List (Tree ((List (Bs × Bs)) × Bs))) (p4 : Int) (p5 : Bs) : Option (Bs) := (F_canonical_Form_r4 fu p0 p1 p2 p3 p5).bind fun x1 => some x1
/- posthouse/parts.each$1$1 -/
abbrev x82T : Type := (Tree ((List (Bs × Bs)) × Bs)) → Int → Int → Bs → Option (Int × Bs)
abbrev x82t0 : Type := Int → (List (Tree ((List (Bs × Bs)) × Bs))) → Int → Int → Int → Bs → Option (Int × Bs)
def F_parts_each_1_1_v2_b0 (rs81 : x82T) (fu : Nat) (r0 : x82t0) : x82t0 := fun s1 s20 s21 s22 m1 m32 => bif decide (s22 < s21) then (idx s20 s22).bind fun y1 => (rs81 (Tree.node y1.val y1.kids) (w64 (s1 + (1 : Int))) m1 m32).bind fun x2 => r0 s1 s20 s21 (w64 (s22 + (1 : Int))) x2.1 x2.2 else some (m1, m32)
def F_parts_each_1_1_v2_p0 (rs81 : x82T) (fu : Nat) : Nat → x82t0 | 0 => fun _ _ _ _ _ _ => none | n + 1 => F_parts_each_1_1_v2_b0 rs81 fu (F_parts_each_1_1_v2_p0 rs81 fu n)
def F_parts_each_1_1_v2_b (rs81 : x82T) (fu : Nat) (p0 : Tree ((List (Bs × Bs)) × Bs)) (p1 : Int) (p2 : Int) (p3 : Bs) : Option (Int × Bs) := (F_parts_Each_1_r5 fu p2 p0.val.1 p0.val.2 p0.kids p1 p3).bind fun x1 => F_parts_each_1_1_v2_p0 rs81 fu fu p1 p0.kids (List.length p0.kids : Int) (0 : Int) (w64 (p2 + (1 : Int))) x1
def F_parts_each_1_1_v2_n (fu : Nat) : Nat → x82T | 0 => fun _ _ _ _ => none | n + 1 => F_parts_each_1_1_v2_b (F_parts_each_1_1_v2_n fu n) fu
def F_parts_each_1_1_v2 (fu : Nat) (p0 : Tree ((List (Bs × Bs)) × Bs)) (p1 : Int) (p2 : Int) (p3 : Bs) : Option (Int × Bs) := F_parts_each_1_1_v2_n fu fu p0 p1 p2 p3
/- posthouse/parts.each$1 -/
abbrev R_parts_each_1_v2 : Type := (Tree ((List (Bs × Bs)) × Bs)) × Bs
def F_parts_each_1_v2 (fu : Nat) (p0 : Tree ((List (Bs × Bs)) × Bs)) (p1 : Bs) : Option R_parts_each_1_v2 := (F_parts_each_1_1_v2 fu (Tree.node p0.val p0.kids) (0 : Int) (0 : Int) p1).bind fun x1 => some ((Tree.node p0.val p0.kids), x1.2)
/- posthouse/parts.Each$1 -/
abbrev R_parts_Each_1 : Type := (Tree ((List (Bs × Bs)) × Bs)) × Bs
def F_parts_Each_1 (fu : Nat) (p0 : Tree ((List (Bs × Bs)) × Bs)) (p1 : Bs) : Option R_parts_Each_1 := (F_parts_each (Tree.node p0.val p0.kids)).bind fun x1 => (F_parts_each_1_v2 fu (Tree.node x1.val x1.kids) p1).bind fun x2 => some ((Tree.node p0.val p0.kids), x2.2)
/- posthouse/canonical.Form -/
def F_canonical_Form (fu : Nat) (p0 : (List (Bs × Bs)) × Bs) : Option ((Int × Int) × Bs) := (F_parts_Split fu p0).bind fun x1 => (F_basic_Failed x1.2).bind fun x2 => bif x2 then some (x1.2, []) else (F_parts_Each (Tree.node x1.1.val x1.1.kids)).bind fun x3 => (F_parts_Each_1 fu (Tree.node x3.val x3.kids) []).bind fun x4 => (F_basic_None).bind fun x5 => some (x5, x4.2)
/- posthouse/posthouselaw2.canonicalExample -/
def F_W2_canonicalExample (fu : Nat) : Option Bool := (F_canonical_Fields fu ([(([65] : Bs), ([98, 32, 32, 99] : Bs))] : List (Bs × Bs)) ([([97] : Bs)] : List Bs)).bind fun x1 => bif decide (0 < List.length ([(97 : UInt8), (32 : UInt8), (13 : UInt8), (10 : UInt8), (13 : UInt8), (10 : UInt8)] : Bs)) then (F_canonical_Body fu ([(97 : UInt8), (32 : UInt8), (13 : UInt8), (10 : UInt8), (13 : UInt8), (10 : UInt8)] : Bs)).bind fun x2 => (F_canonical_Form fu ([], [])).bind fun x3 => bif x1.1.1 == (0 : Int) then bif x2.1.1 == (0 : Int) then bif x3.1.1 == (0 : Int) then bif x1.2 == ([97, 58, 98, 32, 99, 13, 10] : Bs) then bif x2.2 == ([97, 13, 10] : Bs) then some (x3.2 == ([48, 32, 48, 32, 48, 13, 10] : Bs)) else some false else some false else some false else some false else some false else none
/- posthouse/posthouseref1.At -/
def F_R1_At (p0 : Int) (p1 : Int) : Option ((Int × Int)) := some (p0, p1)
/- posthouse/posthouseref1.In -/
def F_R1_In (p0 : Int) (p1 : Int) (p2 : Int) : Option Bool := bif decide (p1 ≤ p0) then some (decide (p0 ≤ p2)) else some false
/- posthouse/posthouseref1.FieldName -/
abbrev x89t0 : Type := Bs → Int → Option Bool
def F_R1_FieldName_b0 (fu : Nat) (r0 : x89t0) : x89t0 := fun s0 s3 => bif decide (s3 < (List.length s0 : Int)) then (idx s0 s3).bind fun c1 => (F_R1_In (c1.toNat : Int) (33 : Int) (126 : Int)).bind fun x2 => bif !x2 then some false else (idx s0 s3).bind fun c3 => bif c3 == (58 : UInt8) then some false else r0 s0 (w64 (s3 + (1 : Int))) else (F_R1_In (List.length s0 : Int) (1 : Int) (60 : Int)).bind fun x4 => some x4
def F_R1_FieldName_p0 (fu : Nat) : Nat → x89t0 | 0 => fun _ _ => none | n + 1 => F_R1_FieldName_b0 fu (F_R1_FieldName_p0 fu n)
def F_R1_FieldName (fu : Nat) (p0 : Bs) : Option Bool := F_R1_FieldName_p0 fu fu p0 (0 : Int)
/- posthouse/posthouseref1.OneOf -/
abbrev x90t0 : Type := UInt8 → Bs → Int → Option Bool
def F_R1_OneOf_b0 (fu : Nat) (r0 : x90t0) : x90t0 := fun s0 s1 s5 => bif decide (s5 < (List.length s1 : Int)) then (idx s1 s5).bind fun c1 => bif c1 == s0 then some true else r0 s0 s1 (w64 (s5 + (1 : Int))) else some false
def F_R1_OneOf_p0 (fu : Nat) : Nat → x90t0 | 0 => fun _ _ _ => none | n + 1 => F_R1_OneOf_b0 fu (F_R1_OneOf_p0 fu n)
def F_R1_OneOf (fu : Nat) (p0 : UInt8) (p1 : Bs) : Option Bool := F_R1_OneOf_p0 fu fu p0 p1 (0 : Int)
/- posthouse/posthouseref1.Blank -/
def F_R1_Blank (p0 : UInt8) : Option Bool := bif p0 == (32 : UInt8) then some true else some (p0 == (9 : UInt8))
/- posthouse/posthouseref1.Trim -/
abbrev x92t2 : Type := Bs → Option (Bs)
abbrev x92t3 : Type := Bs → Option (Bs)
abbrev x92t1 : Type := Bs → Bool → Option (Bs)
abbrev x92t0 : Type := Bs → Option (Bs)
def F_R1_Trim_p2 (fu : Nat) (r0 : x92t0) : x92t2 := fun s0 => bif decide (0 ≤ (1 : Int) ∧ (1 : Int) ≤ (List.length s0 : Int)) then r0 (List.drop (1 : Int).toNat s0) else none
def F_R1_Trim_b3 (fu : Nat) (r3 : x92t3) : x92t3 := fun s0 => bif decide ((0 : Int) < (List.length s0 : Int)) then (idx s0 (w64 ((List.length s0 : Int) - (1 : Int)))).bind fun c1 => (F_R1_Blank c1).bind fun x2 => bif x2 then bif decide (0 ≤ w64 ((List.length s0 : Int) - (1 : Int)) ∧ w64 ((List.length s0 : Int) - (1 : Int)) ≤ (List.length s0 : Int)) then r3 (List.take (w64 ((List.length s0 : Int) - (1 : Int))).toNat s0) else none else some s0 else some s0
def F_R1_Trim_p3 (fu : Nat) : Nat → x92t3 | 0 => fun _ => none | n + 1 => F_R1_Trim_b3 fu (F_R1_Trim_p3 fu n)
def F_R1_Trim_p1 (fu : Nat) (r0 : x92t0) : x92t1 := fun s0 s10 => bif s10 then F_R1_Trim_p2 fu r0 s0 else F_R1_Trim_p3 fu fu s0
def F_R1_Trim_b0 (fu : Nat) (r0 : x92t0) : x92t0 := fun s0 => bif decide ((0 : Int) < (List.length s0 : Int)) then (idx s0 (0 : Int)).bind fun c1 => (F_R1_Blank c1).bind fun x2 => F_R1_Trim_p1 fu r0 s0 x2 else F_R1_Trim_p1 fu r0 s0 false
def F_R1_Trim_p0 (fu : Nat) : Nat → x92t0 | 0 => fun _ => none | n + 1 => F_R1_Trim_b0 fu (F_R1_Trim_p0 fu n)
def F_R1_Trim (fu : Nat) (p0 : Bs) : Option (Bs) := F_R1_Trim_p0 fu fu p0
/- posthouse/posthouseref1.FieldCode -/
abbrev x93t0 : Type := Bs → Int → Option Int
def F_R1_FieldCode_b0 (fu : Nat) (r0 : x93t0) : x93t0 := fun s1 s5 => bif decide (s5 < (List.length s1 : Int)) then (idx s1 s5).bind fun c1 => (F_R1_OneOf fu c1 ([13, 10, 0] : Bs)).bind fun x2 => bif x2 then some (11 : Int) else r0 s1 (w64 (s5 + (1 : Int))) else (F_R1_Trim fu s1).bind fun x3 => bif !(x3 == s1) then some (11 : Int) else some (0 : Int)
def F_R1_FieldCode_p0 (fu : Nat) : Nat → x93t0 | 0 => fun _ _ => none | n + 1 => F_R1_FieldCode_b0 fu (F_R1_FieldCode_p0 fu n)
def F_R1_FieldCode (fu : Nat) (p0 : Bs) (p1 : Bs) : Option Int := (F_R1_FieldName fu p0).bind fun x1 => bif !x1 then some (10 : Int) else bif decide ((4000 : Int) < (List.length p1 : Int)) then some (1 : Int) else F_R1_FieldCode_p0 fu fu p1 (0 : Int)
/- posthouse/posthouseref1.Folded -/
abbrev x94t3 : Type := Bs → Int → (List Int) → Option ((List Bs))
abbrev x94t1 : Type := Bs → Int → Bool → (List Int) → Option ((List Bs))
abbrev x94t6 : Type := Bs → Int → Int → Int → (List Int) → (List Bs) → Option ((List Bs))
abbrev x94t5 : Type := Bs → Int → Int → Int → Int → Bool → (List Int) → (List Bs) → Option ((List Bs))
abbrev x94t4 : Type := Bs → Int → Int → Int → (List Int) → (List Bs) → Option ((List Bs))
abbrev x94t2 : Type := Bs → Int → (List Int) → (List Bs) → Option ((List Bs))
abbrev x94t0 : Type := Bs → Int → (List Int) → Option ((List Bs))
def F_R1_Folded_p3 (fu : Nat) (r0 : x94t0) : x94t3 := fun s5 s7 m32 => r0 s5 (w64 (s7 + (1 : Int))) m32
def F_R1_Folded_p1 (fu : Nat) (r0 : x94t0) : x94t1 := fun s5 s7 s37 m32 => bif s37 then bif decide (List.length (m32 ++ ([s7] : List Int)) ≤ rowMax) then F_R1_Folded_p3 fu r0 s5 s7 (m32 ++ ([s7] : List Int)) else none else F_R1_Folded_p3 fu r0 s5 s7 m32
def F_R1_Folded_p6 (fu : Nat) (r2 : x94t2) (r4 : x94t4) : x94t6 := fun s5 s9 s10 s11 m32 m33 => r4 s5 s9 s10 (w64 (s11 + (1 : Int))) m32 m33
def F_R1_Folded_p5 (fu : Nat) (r2 : x94t2) (r4 : x94t4) : x94t5 := fun s5 s9 s10 s11 s12 s69 m32 m33 => bif s69 then F_R1_Folded_p6 fu r2 r4 s5 s9 s12 s11 m32 m33 else F_R1_Folded_p6 fu r2 r4 s5 s9 s10 s11 m32 m33
def F_R1_Folded_b4 (fu : Nat) (r2 : x94t2) (r4 : x94t4) : x94t4 := fun s5 s9 s10 s11 m32 m33 => bif decide (s11 < (List.length m32 : Int)) then bif decide (0 ≤ s11 ∧ s11.toNat < List.length m32) then (m32[s11.toNat]?).bind fun y1 => bif decide (s9 < y1) then bif decide ((w64 (y1 - s9)) ≤ (78 : Int)) then F_R1_Folded_p5 fu r2 r4 s5 s9 s10 s11 y1 true m32 m33 else F_R1_Folded_p5 fu r2 r4 s5 s9 s10 s11 y1 (decide (s10 < (0 : Int))) m32 m33 else F_R1_Folded_p5 fu r2 r4 s5 s9 s10 s11 y1 false m32 m33 else none else bif decide (s10 < (0 : Int)) then bif decide (0 ≤ s9 ∧ s9 ≤ (List.length s5 : Int)) then bif decide (List.length (m33 ++ ([List.drop s9.toNat s5] : List Bs)) ≤ rowMax) then some (m33 ++ ([List.drop s9.toNat s5] : List Bs)) else none else none else bif decide (0 ≤ s9 ∧ s9 ≤ s10 ∧ s10 ≤ (List.length s5 : Int)) then bif decide (List.length (m33 ++ ([List.take (s10.toNat - s9.toNat) (List.drop s9.toNat s5)] : List Bs)) ≤ rowMax) then r2 s5 s10 m32 (m33 ++ ([List.take (s10.toNat - s9.toNat) (List.drop s9.toNat s5)] : List Bs)) else none else none
def F_R1_Folded_p4 (fu : Nat) (r2 : x94t2) : Nat → x94t4 | 0 => fun _ _ _ _ _ _ => none | n + 1 => F_R1_Folded_b4 fu r2 (F_R1_Folded_p4 fu r2 n)
def F_R1_Folded_b2 (fu : Nat) (r2 : x94t2) : x94t2 := fun s5 s9 m32 m33 => bif decide ((78 : Int) < (w64 ((List.length s5 : Int) - s9))) then F_R1_Folded_p4 fu r2 fu s5 s9 (-1 : Int) (0 : Int) m32 m33 else bif decide (0 ≤ s9 ∧ s9 ≤ (List.length s5 : Int)) then bif decide (List.length (m33 ++ ([List.drop s9.toNat s5] : List Bs)) ≤ rowMax) then some (m33 ++ ([List.drop s9.toNat s5] : List Bs)) else none else none
def F_R1_Folded_p2 (fu : Nat) : Nat → x94t2 | 0 => fun _ _ _ _ => none | n + 1 => F_R1_Folded_b2 fu (F_R1_Folded_p2 fu n)
def F_R1_Folded_b0 (fu : Nat) (r0 : x94t0) : x94t0 := fun s5 s7 m32 => bif decide (s7 < (List.length s5 : Int)) then (idx s5 s7).bind fun c1 => (F_R1_Blank c1).bind fun x2 => bif x2 then (idx s5 (w64 (s7 - (1 : Int)))).bind fun c3 => (F_R1_Blank c3).bind fun x4 => F_R1_Folded_p1 fu r0 s5 s7 (!x4) m32 else F_R1_Folded_p1 fu r0 s5 s7 false m32 else F_R1_Folded_p2 fu fu s5 (0 : Int) m32 []
def F_R1_Folded_p0 (fu : Nat) : Nat → x94t0 | 0 => fun _ _ _ => none | n + 1 => F_R1_Folded_b0 fu (F_R1_Folded_p0 fu n)
def F_R1_Folded (fu : Nat) (p0 : Bs) (p1 : Bs) : Option ((List Bs)) := bif decide (List.length p0 + List.length ([58, 32] : Bs) ≤ strMax) then bif decide (List.length (p0 ++ ([58, 32] : Bs)) + List.length p1 ≤ strMax) then F_R1_Folded_p0 fu fu ((p0 ++ ([58, 32] : Bs)) ++ p1) (w64 ((List.length p0 : Int) + (3 : Int))) [] else none else none
/- posthouse/posthouseref1.FoldFault -/
abbrev x95t0 : Type := Int → (Int × Int) → (List Bs) → Option ((Int × Int))
def F_R1_FoldFault_b0 (fu : Nat) (r0 : x95t0) : x95t0 := fun s6 m32 m33 => bif decide (s6 < (List.length m33 : Int)) then bif decide (0 ≤ s6 ∧ s6.toNat < List.length m33) then (m33[s6.toNat]?).bind fun y1 => bif decide ((998 : Int) < (List.length y1 : Int)) then (F_R1_At (1 : Int) s6).bind fun x2 => some x2 else r0 (w64 (s6 + (1 : Int))) m32 m33 else none else some ((0 : Int), (0 : Int))
def F_R1_FoldFault_p0 (fu : Nat) : Nat → x95t0 | 0 => fun _ _ _ => none | n + 1 => F_R1_FoldFault_b0 fu (F_R1_FoldFault_p0 fu n)
def F_R1_FoldFault (fu : Nat) (p0 : Bs) (p1 : Bs) : Option ((Int × Int)) := (F_R1_FieldCode fu p0 p1).bind fun x1 => bif x1 != (0 : Int) then (F_R1_FieldCode fu p0 p1).bind fun x2 => (F_R1_At x2 (-1 : Int)).bind fun x3 => some x3 else (F_R1_Folded fu p0 p1).bind fun x4 => F_R1_FoldFault_p0 fu fu (0 : Int) ((0 : Int), (0 : Int)) x4
/- posthouse/posthouseref1.FieldsFault -/
abbrev x96t0 : Type := (List (Bs × Bs)) → Int → (Int × Int) → Option ((Int × Int))
def F_R1_FieldsFault_b0 (fu : Nat) (r0 : x96t0) : x96t0 := fun s0 s3 m32 => bif decide (s3 < (List.length s0 : Int)) then (idx s0 s3).bind fun y1 => (idx s0 s3).bind fun y2 => (F_R1_FoldFault fu y1.1 y2.2).bind fun x3 => bif x3.1 != (0 : Int) then (F_R1_At x3.1 s3).bind fun x4 => some x4 else r0 s0 (w64 (s3 + (1 : Int))) m32 else some ((0 : Int), (0 : Int))
def F_R1_FieldsFault_p0 (fu : Nat) : Nat → x96t0 | 0 => fun _ _ _ => none | n + 1 => F_R1_FieldsFault_b0 fu (F_R1_FieldsFault_p0 fu n)
def F_R1_FieldsFault (fu : Nat) (p0 : List (Bs × Bs)) : Option ((Int × Int)) := bif decide ((60 : Int) < (List.length p0 : Int)) then (F_R1_At (2 : Int) (-1 : Int)).bind fun x1 => some x1 else F_R1_FieldsFault_p0 fu fu p0 (0 : Int) ((0 : Int), (0 : Int))
/- posthouse/posthouseref1.Lower -/
abbrev x97t0 : Type := Int → Bs → Option (Bs)
def F_R1_Lower_b0 (fu : Nat) (r0 : x97t0) : x97t0 := fun s4 m32 => bif decide (s4 < (List.length m32 : Int)) then bif decide (0 ≤ s4 ∧ s4.toNat < List.length m32) then (m32[s4.toNat]?).bind fun y1 => (F_R1_In (y1.toNat : Int) (65 : Int) (90 : Int)).bind fun x2 => bif x2 then bif decide (0 ≤ s4 ∧ s4.toNat < List.length m32) then (m32[s4.toNat]?).bind fun y3 => bif decide (0 ≤ s4 ∧ s4.toNat < List.length m32) then (m32[s4.toNat]?).bind fun y4 => r0 (w64 (s4 + (1 : Int))) (List.set m32 s4.toNat (y3 + (32 : UInt8))) else none else none else r0 (w64 (s4 + (1 : Int))) m32 else none else some m32
def F_R1_Lower_p0 (fu : Nat) : Nat → x97t0 | 0 => fun _ _ => none | n + 1 => F_R1_Lower_b0 fu (F_R1_Lower_p0 fu n)
def F_R1_Lower (fu : Nat) (p0 : Bs) : Option (Bs) := bif decide (List.length p0 ≤ maxLen) then F_R1_Lower_p0 fu fu (0 : Int) p0 else none
/- posthouse/posthouseref1.Alike -/
def F_R1_Alike (fu : Nat) (p0 : Bs) (p1 : Bs) : Option Bool := (F_R1_Lower fu p0).bind fun x1 => (F_R1_Lower fu p1).bind fun x2 => some (x1 == x2)
/- posthouse/posthouseref2.Squeezed -/
abbrev x99t1 : Type := Bs → Bs → Int → Option (Bs)
abbrev x99t2 : Type := Bs → Bs → Int → Bool → Option (Bs)
abbrev x99t0 : Type := Bs → Bs → Int → Option (Bs)
def F_R2_Squeezed_p1 (fu : Nat) (r0 : x99t0) : x99t1 := fun s0 s3 s4 => r0 s0 s3 (w64 (s4 + (1 : Int)))
def F_R2_Squeezed_p2 (fu : Nat) (r0 : x99t0) : x99t2 := fun s0 s3 s4 s40 => bif s40 then bif decide (List.length s3 + List.length ([32] : Bs) ≤ strMax) then F_R2_Squeezed_p1 fu r0 s0 (s3 ++ ([32] : Bs)) s4 else none else F_R2_Squeezed_p1 fu r0 s0 s3 s4
def F_R2_Squeezed_b0 (fu : Nat) (r0 : x99t0) : x99t0 := fun s0 s3 s4 => bif decide (s4 < (List.length s0 : Int)) then (idx s0 s4).bind fun c1 => (F_R1_Blank c1).bind fun x2 => bif !x2 then bif decide (0 ≤ s4 ∧ s4 ≤ w64 (s4 + (1 : Int)) ∧ w64 (s4 + (1 : Int)) ≤ (List.length s0 : Int)) then bif decide (List.length s3 + List.length (List.take ((w64 (s4 + (1 : Int))).toNat - s4.toNat) (List.drop s4.toNat s0)) ≤ strMax) then F_R2_Squeezed_p1 fu r0 s0 (s3 ++ (List.take ((w64 (s4 + (1 : Int))).toNat - s4.toNat) (List.drop s4.toNat s0))) s4 else none else none else bif s3 == ([] : Bs) then F_R2_Squeezed_p2 fu r0 s0 s3 s4 true else (idx s3 (w64 ((List.length s3 : Int) - (1 : Int)))).bind fun c3 => bif c3 != (32 : UInt8) then F_R2_Squeezed_p2 fu r0 s0 s3 s4 true else (idx s0 (w64 (s4 - (1 : Int)))).bind fun c4 => (F_R1_Blank c4).bind fun x5 => F_R2_Squeezed_p2 fu r0 s0 s3 s4 (!x5) else bif !(s3 == ([] : Bs)) then (idx s3 (w64 ((List.length s3 : Int) - (1 : Int)))).bind fun c6 => bif c6 == (32 : UInt8) then bif decide (0 ≤ w64 ((List.length s3 : Int) - (1 : Int)) ∧ w64 ((List.length s3 : Int) - (1 : Int)) ≤ (List.length s3 : Int)) then some (List.take (w64 ((List.length s3 : Int) - (1 : Int))).toNat s3) else none else some s3 else some s3
def F_R2_Squeezed_p0 (fu : Nat) : Nat → x99t0 | 0 => fun _ _ _ => none | n + 1 => F_R2_Squeezed_b0 fu (F_R2_Squeezed_p0 fu n)
def F_R2_Squeezed (fu : Nat) (p0 : Bs) : Option (Bs) := F_R2_Squeezed_p0 fu fu p0 ([] : Bs) (0 : Int)
/- posthouse/posthouseref2.FieldForm -/
def F_R2_FieldForm (fu : Nat) (p0 : Bs × Bs) : Option (Bs) := (F_R1_Lower fu p0.1).bind fun x1 => bif decide (List.length x1 + List.length ([58] : Bs) ≤ strMax) then (F_R2_Squeezed fu p0.2).bind fun x2 => bif decide (List.length (x1 ++ ([58] : Bs)) + List.length x2 ≤ strMax) then bif decide (List.length ((x1 ++ ([58] : Bs)) ++ x2) + List.length ([13, 10] : Bs) ≤ strMax) then some (((x1 ++ ([58] : Bs)) ++ x2) ++ ([13, 10] : Bs)) else none else none else none
/- posthouse/posthouseref2.FieldForms -/
abbrev x101t3 : Type := (List (Bs × Bs)) → (List Bs) → Bs → Int → Int → Int → Option (Bs)
abbrev x101t2 : Type := (List (Bs × Bs)) → (List Bs) → Bs → Int → Int → Int → Option (Bs)
abbrev x101t1 : Type := (List (Bs × Bs)) → (List Bs) → Bs → Int → Int → Int → Option (Bs)
abbrev x101t0 : Type := (List (Bs × Bs)) → (List Bs) → Bs → Int → Option (Bs)
def F_R2_FieldForms_p3 (fu : Nat) (r0 : x101t0) (r1 : x101t1) : x101t3 := fun s0 s1 s5 s6 s7 s8 => r1 s0 s1 s5 s6 s7 (w64 (s8 + (1 : Int)))
def F_R2_FieldForms_b2 (fu : Nat) (r0 : x101t0) (r2 : x101t2) : x101t2 := fun s0 s1 s5 s6 s7 s9 => bif decide ((0 : Int) ≤ s9) then (idx s0 s9).bind fun y1 => (idx s1 s6).bind fun y2 => (F_R1_Alike fu y1.1 y2).bind fun x3 => bif !x3 then r2 s0 s1 s5 s6 s7 (w64 (s9 - (1 : Int))) else bif s7 == (0 : Int) then (idx s0 s9).bind fun y4 => (F_R2_FieldForm fu y4).bind fun x5 => bif decide (List.length s5 + List.length x5 ≤ strMax) then r0 s0 s1 (s5 ++ x5) (w64 (s6 + (1 : Int))) else none else r2 s0 s1 s5 s6 (w64 (s7 - (1 : Int))) (w64 (s9 - (1 : Int))) else r0 s0 s1 s5 (w64 (s6 + (1 : Int)))
def F_R2_FieldForms_p2 (fu : Nat) (r0 : x101t0) : Nat → x101t2 | 0 => fun _ _ _ _ _ _ => none | n + 1 => F_R2_FieldForms_b2 fu r0 (F_R2_FieldForms_p2 fu r0 n)
def F_R2_FieldForms_b1 (fu : Nat) (r0 : x101t0) (r1 : x101t1) : x101t1 := fun s0 s1 s5 s6 s7 s8 => bif decide (s8 < s6) then (idx s1 s8).bind fun y1 => (idx s1 s6).bind fun y2 => (F_R1_Alike fu y1 y2).bind fun x3 => bif x3 then F_R2_FieldForms_p3 fu r0 r1 s0 s1 s5 s6 (w64 (s7 + (1 : Int))) s8 else F_R2_FieldForms_p3 fu r0 r1 s0 s1 s5 s6 s7 s8 else F_R2_FieldForms_p2 fu r0 fu s0 s1 s5 s6 s7 (w64 ((List.length s0 : Int) - (1 : Int)))
def F_R2_FieldForms_p1 (fu : Nat) (r0 : x101t0) : Nat → x101t1 | 0 => fun _ _ _ _ _ _ => none | n + 1 => F_R2_FieldForms_b1 fu r0 (F_R2_FieldForms_p1 fu r0 n)
def F_R2_FieldForms_b0 (fu : Nat) (r0 : x101t0) : x101t0 := fun s0 s1 s5 s6 => bif decide (s6 < (List.length s1 : Int)) then F_R2_FieldForms_p1 fu r0 fu s0 s1 s5 s6 (0 : Int) (0 : Int) else some s5
def F_R2_FieldForms_p0 (fu : Nat) : Nat → x101t0 | 0 => fun _ _ _ _ => none | n + 1 => F_R2_FieldForms_b0 fu (F_R2_FieldForms_p0 fu n)
def F_R2_FieldForms (fu : Nat) (p0 : List (Bs × Bs)) (p1 : List Bs) : Option (Bs) := F_R2_FieldForms_p0 fu fu p0 p1 ([] : Bs) (0 : Int)
/- posthouse/posthouselaw2.CanonicalFieldsMatchesSpec -/
abbrev x102t1 : Type := (List (Bs × Bs)) → (List Bs) → Bs → (Int × Int) → (Int × Int) → Option Bool
abbrev x102t0 : Type := (List (Bs × Bs)) → (List Bs) → Bool → Bs → (Int × Int) → (Int × Int) → Option Bool
def F_W2_CanonicalFieldsMatchesSpec_p1 (fu : Nat) : x102t1 := fun s0 s1 m32 m33 m34 => bif m34.1 != (0 : Int) then bif ((m33.1 == m34.1) && ((m33.2 == m34.2) && true)) then some ((List.length m32 : Int) == (0 : Int)) else some false else bif m33.1 == (0 : Int) then (F_R2_FieldForms fu s0 s1).bind fun x1 => some (m32 == x1) else some false
def F_W2_CanonicalFieldsMatchesSpec_p0 (fu : Nat) : x102t0 := fun s0 s1 s25 m32 m33 m34 => bif s25 then (F_R1_At (2 : Int) (-2 : Int)).bind fun x1 => F_W2_CanonicalFieldsMatchesSpec_p1 fu s0 s1 m32 m33 x1 else F_W2_CanonicalFieldsMatchesSpec_p1 fu s0 s1 m32 m33 m34
def F_W2_CanonicalFieldsMatchesSpec (fu : Nat) (p0 : List (Bs × Bs)) (p1 : List Bs) : Option Bool := (F_W2_canonicalExample fu).bind fun x1 => bif !x1 then some false else (F_canonical_Fields fu p0 p1).bind fun x2 => (F_R1_FieldsFault fu p0).bind fun x3 => bif x3.1 == (0 : Int) then F_W2_CanonicalFieldsMatchesSpec_p0 fu p0 p1 (decide ((300 : Int) < (List.length p1 : Int))) x2.2 x2.1 x3 else F_W2_CanonicalFieldsMatchesSpec_p0 fu p0 p1 false x2.2 x2.1 x3
/- posthouse/posthouseref1.Crlf -/
def F_R1_Crlf (p0 : Bs) (p1 : Int) : Option Bool := bif decide ((w64 (p1 + (1 : Int))) < (List.length p0 : Int)) then (idx p0 p1).bind fun y1 => bif y1 == (13 : UInt8) then (idx p0 (w64 (p1 + (1 : Int)))).bind fun y2 => some (y2 == (10 : UInt8)) else some false else some false
/- posthouse/posthouseref2.BodyForm -/
abbrev x104t3 : Type := Bs → Bs → Int → Int → Int → Option (Bs)
abbrev x104t4 : Type := Bs → Bs → Int → Int → Bs → Option (Bs)
abbrev x104t2 : Type := Bs → Bs → Int → Int → Int → Bool → Option (Bs)
abbrev x104t1 : Type := Bs → Bs → Int → Int → Int → Option (Bs)
abbrev x104t0 : Type := Bs → Bs → Int → Int → Option (Bs)
def F_R2_BodyForm_p3 (fu : Nat) (r0 : x104t0) (r1 : x104t1) : x104t3 := fun s0 s3 s4 s5 s6 => r1 s0 s3 s4 s5 (w64 (s6 + (1 : Int)))
def F_R2_BodyForm_b4 (fu : Nat) (r0 : x104t0) (r4 : x104t4) : x104t4 := fun s0 s3 s4 s6 s7 => bif decide ((0 : Int) < s4) then bif decide (List.length s3 + List.length ([13, 10] : Bs) ≤ strMax) then r4 s0 (s3 ++ ([13, 10] : Bs)) (w64 (s4 - (1 : Int))) s6 s7 else none else bif decide (List.length s3 + List.length s7 ≤ strMax) then bif decide (List.length (s3 ++ s7) + List.length ([13, 10] : Bs) ≤ strMax) then bif s6 == (List.length s0 : Int) then some ((s3 ++ s7) ++ ([13, 10] : Bs)) else r0 s0 ((s3 ++ s7) ++ ([13, 10] : Bs)) s4 (w64 (s6 + (2 : Int))) else none else none
def F_R2_BodyForm_p4 (fu : Nat) (r0 : x104t0) : Nat → x104t4 | 0 => fun _ _ _ _ _ => none | n + 1 => F_R2_BodyForm_b4 fu r0 (F_R2_BodyForm_p4 fu r0 n)
def F_R2_BodyForm_p2 (fu : Nat) (r0 : x104t0) (r1 : x104t1) : x104t2 := fun s0 s3 s4 s5 s6 s22 => bif s22 then F_R2_BodyForm_p3 fu r0 r1 s0 s3 s4 s5 s6 else bif decide (0 ≤ s5 ∧ s5 ≤ s6 ∧ s6 ≤ (List.length s0 : Int)) then (F_R2_Squeezed fu (List.take (s6.toNat - s5.toNat) (List.drop s5.toNat s0))).bind fun x1 => bif x1 == ([] : Bs) then bif s6 == (List.length s0 : Int) then some s3 else r0 s0 s3 (w64 (s4 + (1 : Int))) (w64 (s6 + (2 : Int))) else F_R2_BodyForm_p4 fu r0 fu s0 s3 s4 s6 x1 else none
def F_R2_BodyForm_b1 (fu : Nat) (r0 : x104t0) (r1 : x104t1) : x104t1 := fun s0 s3 s4 s5 s6 => bif decide (s6 < (List.length s0 : Int)) then (F_R1_Crlf s0 s6).bind fun x1 => F_R2_BodyForm_p2 fu r0 r1 s0 s3 s4 s5 s6 (!x1) else F_R2_BodyForm_p2 fu r0 r1 s0 s3 s4 s5 s6 false
def F_R2_BodyForm_p1 (fu : Nat) (r0 : x104t0) : Nat → x104t1 | 0 => fun _ _ _ _ _ => none | n + 1 => F_R2_BodyForm_b1 fu r0 (F_R2_BodyForm_p1 fu r0 n)
def F_R2_BodyForm_b0 (fu : Nat) (r0 : x104t0) : x104t0 := fun s0 s3 s4 s5 => bif decide (s5 ≤ (List.length s0 : Int)) then F_R2_BodyForm_p1 fu r0 fu s0 s3 s4 s5 s5 else some s3
def F_R2_BodyForm_p0 (fu : Nat) : Nat → x104t0 | 0 => fun _ _ _ _ => none | n + 1 => F_R2_BodyForm_b0 fu (F_R2_BodyForm_p0 fu n)
def F_R2_BodyForm (fu : Nat) (p0 : Bs) : Option (Bs) := F_R2_BodyForm_p0 fu fu p0 ([] : Bs) (0 : Int) (0 : Int)
/- posthouse/posthouseref1.Bytes -/
def F_R1_Bytes (p0 : Bs) (p1 : Bs) : Option Bool := some (p0 == p1)
/- posthouse/posthouselaw2.CanonicalBodyMatchesSpec -/
abbrev x106t1 : Type := Bs → Option Bool
abbrev x106t0 : Type := Bs → Bool → Bs → (Int × Int) → Option Bool
def F_W2_CanonicalBodyMatchesSpec_p1 (fu : Nat) : x106t1 := fun m32 => (F_canonical_Body fu m32).bind fun x1 => bif x1.1.1 == (0 : Int) then (F_R1_Bytes m32 x1.2).bind fun x2 => some x2 else some false
def F_W2_CanonicalBodyMatchesSpec_p0 (fu : Nat) : x106t0 := fun s0 s39 m32 m33 => bif s39 then bif m33.1 == (0 : Int) then (F_R2_BodyForm fu s0).bind fun x1 => some (m32 == x1) else some false else F_W2_CanonicalBodyMatchesSpec_p1 fu m32
def F_W2_CanonicalBodyMatchesSpec (fu : Nat) (p0 : Bs) : Option Bool := (F_W2_canonicalExample fu).bind fun x1 => bif !x1 then some false else (F_canonical_Body fu p0).bind fun x2 => bif decide ((12000 : Int) < (List.length p0 : Int)) then (F_R1_At (1 : Int) (-1 : Int)).bind fun x3 => bif ((x2.1.1 == x3.1) && ((x2.1.2 == x3.2) && true)) then some ((List.length x2.2 : Int) == (0 : Int)) else some false else bif x2.1.1 != (0 : Int) then F_W2_CanonicalBodyMatchesSpec_p0 fu p0 true x2.2 x2.1 else (F_R2_BodyForm fu p0).bind fun x4 => bif !(x2.2 == x4) then F_W2_CanonicalBodyMatchesSpec_p0 fu p0 true x2.2 x2.1 else F_W2_CanonicalBodyMatchesSpec_p0 fu p0 (decide ((12000 : Int) < (List.length x2.2 : Int))) x2.2 x2.1
end Go.Sym
/-
  DERIVED: THE SHELF's CONTRACTS AT THIS DUMP, IN PLAIN WORDS (tools/lay-plain.mjs out of 'TryhShelf.lean', which tools/lay-shelf.mjs wrote): THE SAME DECLARATIONS UNDER THE SAME NAMES: 'import', 'namespace', 'open', 'def', 'theorem' AND NOTHING ELSE: no command of the shelf's: FOR A HAND-IN. Each laying: the table of numbers ('.._ren') and one theorem, a field a fact of the dump's own or the kernel's comparison; each contract: ONE APPLICATION.
-/
namespace Go.Proofs
open Go.Shelf
def Tryz.laysM171_ren : Go.Shelf.Ren := ⟨fun | 171 => 29 | 243 => 45 | 246 => 73 | 283 => 96 | 284 => 97 | 285 => 98 | 286 => 99 | 129 => 130 | 317 => 129 | 318 => 131 | 319 => 132 | 320 => 133 | 337 => 167 | 338 => 168 | n => n, fun | 3 => 3 | 9 => 9 | 2 => 2 | 4 => 4 | 171 => 151 | 0 => 0 | 53 => 128 | 37 => 25 | 5 => 5 | 173 => 154 | 212 => 180 | 51 => 125 | 20 => 20 | 213 => 181 | 46 => 92 | 232 => 254 | 233 => 255 | n => n, fun | 17 => 1 | 18 => 4 | 19 => 5 | n => n⟩
theorem Tryz.laysM171 : Go.Proofs.LaysM.n171 Tryz.prog Tryz.laysM171_ren := {
  mixed := by kernel_rfl
  f129 := Tryz.func130.trans (congrArg some (by kernel_rfl))
  f171 := Tryz.func29.trans (congrArg some (by kernel_rfl))
  f243 := Tryz.func45.trans (congrArg some (by kernel_rfl))
  f246 := Tryz.func73.trans (congrArg some (by kernel_rfl))
  f283 := Tryz.func96.trans (congrArg some (by kernel_rfl))
  f284 := Tryz.func97.trans (congrArg some (by kernel_rfl))
  f285 := Tryz.func98.trans (congrArg some (by kernel_rfl))
  f286 := Tryz.func99.trans (congrArg some (by kernel_rfl))
  f317 := Tryz.func129.trans (congrArg some (by kernel_rfl))
  f318 := Tryz.func131.trans (congrArg some (by kernel_rfl))
  f319 := Tryz.func132.trans (congrArg some (by kernel_rfl))
  f320 := Tryz.func133.trans (congrArg some (by kernel_rfl))
  f337 := Tryz.func167.trans (congrArg some (by kernel_rfl))
  f338 := Tryz.func168.trans (congrArg some (by kernel_rfl))
  t0 := Tryz.underlying0
  a0 := Tryz.isAgg0
  z0 := Tryz.sizeOf0
  v0 := Tryz.zeroValue0
  t2 := Tryz.underlying2
  a2 := Tryz.isAgg2
  z2 := Tryz.sizeOf2
  v2 := Tryz.zeroValue2
  t3 := Tryz.underlying3
  a3 := Tryz.isAgg3
  z3 := Tryz.sizeOf3
  v3 := Tryz.zeroValue3
  t4 := Tryz.underlying4
  a4 := Tryz.isAgg4
  z4 := Tryz.sizeOf4
  v4 := Tryz.zeroValue4
  t5 := Tryz.underlying5
  a5 := Tryz.isAgg5
  z5 := Tryz.sizeOf5
  v5 := Tryz.zeroValue5
  t9 := Tryz.underlying9
  a9 := Tryz.isAgg9
  z9 := Tryz.sizeOf9
  v9 := Tryz.zeroValue9
  t20 := Tryz.underlying20
  a20 := Tryz.isAgg20
  z20 := Tryz.sizeOf20
  v20 := Tryz.zeroValue20
  t37 := Tryz.underlying25
  a37 := Tryz.isAgg25
  z37 := Tryz.sizeOf25
  v37 := Tryz.zeroValue25
  t46 := Tryz.underlying92
  a46 := Tryz.isAgg92
  z46 := Tryz.sizeOf92
  v46 := Tryz.zeroValue92
  t51 := Tryz.underlying125
  a51 := Tryz.isAgg125
  z51 := Tryz.sizeOf125
  v51 := Tryz.zeroValue125
  t53 := Tryz.underlying128
  a53 := Tryz.isAgg128
  z53 := Tryz.sizeOf128
  v53 := Tryz.zeroValue128
  t171 := Tryz.underlying151
  a171 := Tryz.isAgg151
  z171 := Tryz.sizeOf151
  v171 := Tryz.zeroValue151
  t173 := Tryz.underlying154
  a173 := Tryz.isAgg154
  z173 := Tryz.sizeOf154
  v173 := Tryz.zeroValue154
  t212 := Tryz.underlying180
  a212 := Tryz.isAgg180
  z212 := Tryz.sizeOf180
  v212 := Tryz.zeroValue180
  t213 := Tryz.underlying181
  a213 := Tryz.isAgg181
  z213 := Tryz.sizeOf181
  t232 := Tryz.underlying254
  a232 := Tryz.isAgg254
  z232 := Tryz.sizeOf254
  v232 := Tryz.zeroValue254
  t233 := Tryz.underlying255
  a233 := Tryz.isAgg255
  z233 := Tryz.sizeOf255
  v233 := Tryz.zeroValue255
  g17 := by kernel_rfl
  g18 := by kernel_rfl
  g19 := by kernel_rfl
  i0 := by kernel_rfl
  i2 := by kernel_rfl
  i3 := by kernel_rfl
  i4 := by kernel_rfl
  i5 := by kernel_rfl
  i9 := by kernel_rfl
  i20 := by kernel_rfl
  i37 := by kernel_rfl
  i46 := by kernel_rfl
  i51 := by kernel_rfl
  i53 := by kernel_rfl
  i171 := by kernel_rfl
  i173 := by kernel_rfl
  i212 := by kernel_rfl
  i232 := by kernel_rfl
  i233 := by kernel_rfl
  m17 := by kernel_rfl
  m18 := by kernel_rfl
  m19 := by kernel_rfl }
def Tryz.lays185_ren : Go.Shelf.Ren := ⟨fun | 185 => 80 | 187 => 103 | 115 => 104 | 253 => 105 | 224 => 106 | 254 => 107 | 255 => 135 | 291 => 136 | n => n, fun | 37 => 25 | 3 => 3 | 4 => 4 | 0 => 0 | 5 => 5 | 46 => 92 | 9 => 9 | 146 => 126 | 51 => 125 | n => n, fun | 1 => 0 | n => n⟩
theorem Tryz.lays185 : Go.Proofs.Lays.n185 Tryz.prog Tryz.lays185_ren := {
  mixed := by kernel_rfl
  f115 := Tryz.func104.trans (congrArg some (by kernel_rfl))
  f185 := Tryz.func80.trans (congrArg some (by kernel_rfl))
  f187 := Tryz.func103.trans (congrArg some (by kernel_rfl))
  f224 := Tryz.func106.trans (congrArg some (by kernel_rfl))
  f253 := Tryz.func105.trans (congrArg some (by kernel_rfl))
  f254 := Tryz.func107.trans (congrArg some (by kernel_rfl))
  f255 := Tryz.func135.trans (congrArg some (by kernel_rfl))
  f291 := Tryz.func136.trans (congrArg some (by kernel_rfl))
  t0 := Tryz.underlying0
  a0 := Tryz.isAgg0
  z0 := Tryz.sizeOf0
  v0 := Tryz.zeroValue0
  t3 := Tryz.underlying3
  a3 := Tryz.isAgg3
  z3 := Tryz.sizeOf3
  v3 := Tryz.zeroValue3
  t4 := Tryz.underlying4
  a4 := Tryz.isAgg4
  z4 := Tryz.sizeOf4
  v4 := Tryz.zeroValue4
  t5 := Tryz.underlying5
  a5 := Tryz.isAgg5
  z5 := Tryz.sizeOf5
  v5 := Tryz.zeroValue5
  t9 := Tryz.underlying9
  a9 := Tryz.isAgg9
  z9 := Tryz.sizeOf9
  v9 := Tryz.zeroValue9
  t37 := Tryz.underlying25
  a37 := Tryz.isAgg25
  z37 := Tryz.sizeOf25
  v37 := Tryz.zeroValue25
  t46 := Tryz.underlying92
  a46 := Tryz.isAgg92
  z46 := Tryz.sizeOf92
  v46 := Tryz.zeroValue92
  t51 := Tryz.underlying125
  a51 := Tryz.isAgg125
  z51 := Tryz.sizeOf125
  v51 := Tryz.zeroValue125
  t146 := Tryz.underlying126
  a146 := Tryz.isAgg126
  z146 := Tryz.sizeOf126
  v146 := Tryz.zeroValue126
  g1 := by kernel_rfl }
def Tryz.lays105_ren : Go.Shelf.Ren := ⟨fun | 105 => 37 | 212 => 56 | 99 => 57 | 165 => 58 | 166 => 59 | 170 => 60 | 169 => 61 | 263 => 81 | 264 => 82 | 206 => 83 | 240 => 84 | 241 => 85 | 276 => 108 | 277 => 109 | n => n, fun | 9 => 9 | 3 => 3 | 4 => 4 | 20 => 20 | 0 => 0 | 46 => 92 | 109 => 93 | 5 => 5 | 72 => 97 | 76 => 101 | 51 => 125 | 146 => 126 | 53 => 128 | 148 => 129 | 70 => 95 | 37 => 25 | 75 => 100 | 127 => 131 | 164 => 158 | 80 => 104 | n => n, fun | n => n⟩
theorem Tryz.lays105 : Go.Proofs.Lays.n105 Tryz.prog Tryz.lays105_ren := {
  mixed := by kernel_rfl
  f99 := Tryz.func57.trans (congrArg some (by kernel_rfl))
  f105 := Tryz.func37.trans (congrArg some (by kernel_rfl))
  f165 := Tryz.func58.trans (congrArg some (by kernel_rfl))
  f166 := Tryz.func59.trans (congrArg some (by kernel_rfl))
  f169 := Tryz.func61.trans (congrArg some (by kernel_rfl))
  f170 := Tryz.func60.trans (congrArg some (by kernel_rfl))
  f206 := Tryz.func83.trans (congrArg some (by kernel_rfl))
  f212 := Tryz.func56.trans (congrArg some (by kernel_rfl))
  f240 := Tryz.func84.trans (congrArg some (by kernel_rfl))
  f241 := Tryz.func85.trans (congrArg some (by kernel_rfl))
  f263 := Tryz.func81.trans (congrArg some (by kernel_rfl))
  f264 := Tryz.func82.trans (congrArg some (by kernel_rfl))
  f276 := Tryz.func108.trans (congrArg some (by kernel_rfl))
  f277 := Tryz.func109.trans (congrArg some (by kernel_rfl))
  t0 := Tryz.underlying0
  a0 := Tryz.isAgg0
  z0 := Tryz.sizeOf0
  v0 := Tryz.zeroValue0
  t3 := Tryz.underlying3
  a3 := Tryz.isAgg3
  z3 := Tryz.sizeOf3
  v3 := Tryz.zeroValue3
  t4 := Tryz.underlying4
  a4 := Tryz.isAgg4
  z4 := Tryz.sizeOf4
  v4 := Tryz.zeroValue4
  t5 := Tryz.underlying5
  a5 := Tryz.isAgg5
  z5 := Tryz.sizeOf5
  v5 := Tryz.zeroValue5
  t9 := Tryz.underlying9
  a9 := Tryz.isAgg9
  z9 := Tryz.sizeOf9
  v9 := Tryz.zeroValue9
  t20 := Tryz.underlying20
  a20 := Tryz.isAgg20
  z20 := Tryz.sizeOf20
  v20 := Tryz.zeroValue20
  t37 := Tryz.underlying25
  a37 := Tryz.isAgg25
  z37 := Tryz.sizeOf25
  v37 := Tryz.zeroValue25
  t46 := Tryz.underlying92
  a46 := Tryz.isAgg92
  z46 := Tryz.sizeOf92
  v46 := Tryz.zeroValue92
  t51 := Tryz.underlying125
  a51 := Tryz.isAgg125
  z51 := Tryz.sizeOf125
  v51 := Tryz.zeroValue125
  t53 := Tryz.underlying128
  a53 := Tryz.isAgg128
  z53 := Tryz.sizeOf128
  v53 := Tryz.zeroValue128
  t70 := Tryz.underlying95
  a70 := Tryz.isAgg95
  z70 := Tryz.sizeOf95
  v70 := Tryz.zeroValue95
  t72 := Tryz.underlying97
  a72 := Tryz.isAgg97
  z72 := Tryz.sizeOf97
  v72 := Tryz.zeroValue97
  t75 := Tryz.underlying100
  a75 := Tryz.isAgg100
  z75 := Tryz.sizeOf100
  v75 := Tryz.zeroValue100
  t76 := Tryz.underlying101
  a76 := Tryz.isAgg101
  z76 := Tryz.sizeOf101
  v76 := Tryz.zeroValue101
  t109 := Tryz.underlying93
  a109 := Tryz.isAgg93
  z109 := Tryz.sizeOf93
  v109 := Tryz.zeroValue93
  t127 := Tryz.underlying131
  a127 := Tryz.isAgg131
  z127 := Tryz.sizeOf131
  v127 := Tryz.zeroValue131
  t146 := Tryz.underlying126
  a146 := Tryz.isAgg126
  z146 := Tryz.sizeOf126
  v146 := Tryz.zeroValue126
  t148 := Tryz.underlying129
  a148 := Tryz.isAgg129
  z148 := Tryz.sizeOf129
  v148 := Tryz.zeroValue129
  t164 := Tryz.underlying158
  a164 := Tryz.isAgg158
  z164 := Tryz.sizeOf158
  v164 := Tryz.zeroValue158 }
end Go.Proofs
/- From contracts of the library's functions to entries. -/
namespace Go.Sym
open Go.RowKit
variable [LC]

/-- a call that hands back data and leaves what was there -/
theorem CallsTo.data {P : Program} {f : FuncId} {xs : List AV} {r : AV}
    (h : ∀ (w : World) (G : Gh) (vs : List Value), Mem G [] w → Reps xs G vs → Calls P f vs.toArray w fun e w' => ∃ v, e = .returned v ∧ Rep r G v ∧ Still w w') : CallsTo P f xs [] r [] := by
  intro w G vs hm hr
  refine (h w G vs hm hr).mono ?_
  rintro e w' ⟨v, rfl, hv, hs⟩
  refine ⟨v, G, rfl, ?_, hv⟩
  exact (blocks_self hm).extend (new := []) (Gh.le.refl G) hs (fun _ _ _ h => .inl h) (fun b o v hv => by
    have hc := hm.agree b o v hv
    have hlt := World.block_lt_of_cell? _ _ hc
    rw [World.cell?_of_block (w := w) (hs.block b hlt (fun h => h))]; exact hc) hm.one (fun n bx h => by cases h) (fun n bx h => by cases h) (fun n m bx bx' b h => by cases h)
omit [LC] in
theorem Still.of_below {w w' : World} (h : Below w.heap.size w w') : Still w w' := ⟨h.os, h.tape, h.output, h.size, fun k hk _ => h.block k hk⟩
omit [LC] in
theorem Still.refl (w : World) : Still w w := ⟨rfl, rfl, rfl, Nat.le_refl _, fun _ _ _ => rfl⟩
/-- a call that hands back a slice of its own -/
theorem CallsTo.fresh {P : Program} {f : FuncId} {xs : List AV} {τ : Ty} {l : List τ.den} {E : TypeId}
    (h : ∀ (w : World) (G : Gh) (vs : List Value), Mem G [] w → Reps xs G vs → Calls P f vs.toArray w fun e w' => ∃ ad c us, e = .returned (.slice ad l.length c) ∧ RowAt w' E τ.sz ad l.length c us ∧ Reps (l.flatMap τ.enc) G.data us ∧ (∀ b, blkOf ad = some b → w.heap.size ≤ b) ∧ Still w w') :
    CallsTo P f xs [] (.own 0) [(0, .row τ l E)] := by
  intro w G vs hm hr
  refine (h w G vs hm hr).mono ?_
  rintro e w' ⟨ad, c, us, rfl, hrow, hus, hb, hs⟩
  let G' : Gh := { imm := G.imm, box := fun _ => none, own := fun m => bif Nat.beq m 0 then some (ad, l.length, c) else none }
  have hself : (G'.own 0) = some (ad, l.length, c) := rfl
  have hag : ∀ b o v, G.imm b o = some v → w'.cell? ⟨b, o, none⟩ = some v := fun b o v hv => by
    have hc := hm.agree b o v hv
    have hlt := World.block_lt_of_cell? _ _ hc
    rw [World.cell?_of_block (w := w) (hs.block b hlt (fun h => h))]; exact hc
  have hlt : ∀ b o v, G.imm b o = some v → b < w.heap.size := fun b o v hv => World.block_lt_of_cell? _ _ (hm.agree b o v hv)
  have hlk : ∀ m b, look [(0, Box.row τ l E)] m = some b → m = 0 ∧ b = .row τ l E := fun m b hh => by
    simp only [look] at hh
    cases hb : Nat.beq 0 m
    · rw [hb] at hh; cases hh
    · rw [hb] at hh; simp only [cond_true, Option.some.injEq] at hh; exact ⟨(Nat.eq_of_beq_eq_true hb).symm, hh.symm⟩
  have hat : G'.at 0 (.row τ l E) = blkOf ad := by
    simp only [Gh.at, hself]; cases ad <;> rfl
  refine ⟨.slice ad l.length c, G', rfl, ⟨⟨hag, hm.one, fun m b hh => ?_, fun m m' b b' c' h1 h2 _ _ => ?_, LC.mono (fun _ _ _ h => h) (fun b o v h => hs.block b (hlt b o v h) fun h => h) hm.tab⟩, ⟨hs.os, hs.tape, hs.output, hs.size, fun k hk _ => hs.block k hk fun h => h⟩, fun _ _ _ h => h, fun _ _ _ h => .inl h, fun m b c' h1 h2 => ?_, fun _ _ _ h => (by cases h), fun _ _ _ h => (by cases h)⟩, ad, l.length, c, hself, rfl⟩
  · obtain ⟨rfl, rfl⟩ := hlk m b hh
    refine BoxOk.row hself hrow (Reps.data_le (fun _ _ _ h => h) hus) fun b hb' o => ?_
    cases hq : G.imm b o with
    | none => rfl
    | some v => have := hlt b o v hq; have := hb b hb'; omega
  · obtain ⟨rfl, _⟩ := hlk m b h1
    obtain ⟨rfl, _⟩ := hlk m' b' h2
    rfl
  · obtain ⟨rfl, rfl⟩ := hlk m b h1
    rw [hat] at h2
    exact .inl (hb c' h2)
/-- the cells of a slice of data, in whatever world that keeps what was there -/
theorem sl_src {P : Program} {G : Gh} {w : World} (hm : Mem G [] w) {τ : Ty} {l : List τ.den} {v : Value} (h : Rep (.sl τ l) G v) :
    ∃ news, (∀ w, (Builtin.lenOf v).run P w = .ok l.length w) ∧ (∀ w', (∀ k, k < w.heap.size → w'.heap[k]? = w.heap[k]?) → (Builtin.firstCells τ.sz l.length v).run P w' = .ok news.toArray w') ∧ Reps (l.flatMap τ.enc) G.data news ∧ ∀ u ∈ news, u.oneCell' = true := by
  let s : St := { n := 0, fr := [], hp := [], nx := 0, df := [] }
  have hr : Rel w G.data [] G.data s { tmps := #[], defers := [] } w :=
    ⟨⟨[], rfl, rfl⟩, rfl, fun i x h => (by cases h), fun _ _ _ => ⟨rfl, rfl⟩, blocks_self ⟨hm.agree, hm.one, fun _ _ h => (by cases h), fun _ _ _ _ _ h => (by cases h), hm.tab⟩⟩
  rcases src_ok hr (x := .sl τ l) (v := v) (flat := l.flatMap τ.enc) (n := l.length) h rfl with ⟨b, hb, _⟩ | ⟨ad, c, us, rfl, h1, h2, h3⟩
  · cases hb
  · refine ⟨us, fun w => by simp [Builtin.lenOf], fun w' hw' => ?_, h1, h2⟩
    have hul : us.length = l.length * τ.sz := by rw [← h1.length, flat_len]
    cases ad with
    | none =>
      have : us = [] := by
        rcases h3 with h3 | ⟨_, _, h3, _⟩
        · exact h3
        · cases h3
      subst this
      simp [Builtin.firstCells]
    | some ad =>
      have h3' : us = [] ∨ ∃ b o, some ad = some (⟨b, o, none⟩ : Addr) ∧ ∀ j u, us[j]? = some u → w'.cell? ⟨b, o + j, none⟩ = some u := by
        rcases h3 with h3 | ⟨b, o, h4, h5⟩
        · exact .inl h3
        · refine .inr ⟨b, o, h4, fun j u hu => ?_⟩
          have hc := h5 j u hu
          rw [World.cell?_of_block (w := w) (hw' _ (World.block_lt_of_cell? _ _ hc))]; exact hc
      have := run_loadCells0 (P := P) (w := w') (ad := ad) h3'
      rw [hul] at this
      simp [Builtin.firstCells, this]
omit [LC] in
theorem wpList_append_row {P : Program} {ops : Array Oper} {rest : List Oper} {o : Oper} {a : Act} {w : World} {Q : Exit → Act → World → Prop} (hgd : o.guard = none) (s x : Operand) (t : TypeId)
    (ho : o.op = .call { callee := .builtin .append, args := #[s, x], argTypes := #[t, t] }) {E : TypeId} {sz : Nat} (ht : P.underlying t = some (.slice E)) (hz : zeroFine P E = true) (hsz : tSize P E = some sz) (ht2 : notInt P t = true)
    {ad : Option Addr} {n c : Nat} {us : List Value} (hs : a.eval s = .slice ad n c) (hrow : RowAt w E sz ad n c us) {v : Value} (hx : a.eval x = v) {m : Nat} {news : List Value}
    (hlen : ∀ w, (Builtin.lenOf v).run P w = .ok m w) (hcells : ∀ w', w'.heap = w.heap → (Builtin.firstCells sz m v).run P w' = .ok news.toArray w') (hnl : news.length = m * sz) (hn1 : ∀ v ∈ news, v.oneCell' = true) (hmax : n + m ≤ rowMax)
    (h : ∀ ad' c' w', RowAt w' E sz ad' (n + m) c' (us ++ news) → (blkOf ad' = blkOf ad ∨ ∃ g, blkOf ad' = some g ∧ w.heap.size ≤ g) → Bel (fun b => blkOf ad = some b) w w' → wpList P ops Q rest (a.put o.dst (.slice ad' (n + m) c')) w') : wpList P ops Q (o :: rest) a w := by
  obtain ⟨i, z, hi, hz', z1, z2, z3, z4, zs⟩ := zeroFine_ok hz hsz
  rw [← zs] at hrow hcells hnl h
  refine wpList_plain hgd fun _ hK => ?_
  obtain ⟨ad', c', w', r1, r2, r3, r4⟩ := run_append' (ty := o.type) ht hi hz' z1 z2 z3 z4 ht2 hrow hlen hcells hnl hn1 hmax
  unfold Oper.wp execOp
  simp only [ho, resolve, invoke, builtin, Sem.run_bind, Sem.run_pure, Result.andThen_ok, List.map_toArray, List.map_cons, List.map_nil, hs, hx, r1]
  exact hK _ _ (h ad' c' w' r2 r3 r4)
end Go.Sym
/- Entries of the library's functions, out of the kit's contracts. -/
namespace Go.Sym
open Go.Proofs Go.RowKit Go.Sort
variable [LC]
omit [LC] in
theorem Still.below {w w' : World} (h : Still w w') : Below w.heap.size w w' := ⟨h.os, h.tape, h.output, h.size, fun k hk => h.block k hk (fun h => h)⟩
theorem Mem.still {G : Gh} {w w' : World} (hm : Mem G [] w) (hs : Still w w') : Mem G [] w' :=
  have hlt : ∀ b o v, G.imm b o = some v → w'.heap[b]? = w.heap[b]? := fun b o v hv => hs.block b (World.block_lt_of_cell? _ _ (hm.agree b o v hv)) (fun h => h)
  ⟨fun b o v hv => by rw [World.cell?_of_block (w := w) (hlt b o v hv)]; exact hm.agree b o v hv, hm.one, fun n bx h => (by cases h), fun n m bx bx' b h => (by cases h), LC.mono (fun _ _ _ h => h) hlt hm.tab⟩
/-- the table of the powers of 10 -/
theorem powTab {G : Gh} {w : World} (hm : Mem G [] w) (hg : LC.glob 1 = some ⟨.int .u64, Lib.pow10Tab⟩) (hs : (1, 20) ∈ LC.sizes) : ∃ t fr, w.heap[1]? = some (.cells (Lib.pow10Tab.map fun z => Value.int .u64 z).toArray t fr) := by
  obtain ⟨_, cs, t, fr, hh, hz⟩ := hm.tab.2.2.2 _ hs
  refine ⟨t, fr, hh.trans ?_⟩
  congr 2
  apply Array.ext
  · rw [hz]; simp [Lib.pow10Tab]
  · intro j h1 h2
    have hj : j < Lib.pow10Tab.length := by simpa using h2
    have h3 := hm.agree _ _ _ (hm.tab.1 _ _ _ hg j _ (List.getElem?_eq_getElem hj))
    rw [show j * (Ty.int .u64).sz = j from Nat.mul_one j] at h3
    simp only [World.cell?, hh] at h3
    rw [Array.getElem?_eq_getElem h1] at h3
    simp only [List.getElem_toArray, List.getElem_map]
    exact Option.some.inj h3
theorem itoa_calls {G : Gh} {w : World} (hm : Mem G [] w) (hg : LC.glob 1 = some ⟨.int .u64, Lib.pow10Tab⟩) (hs : (1, 20) ∈ LC.sizes) (n : Int) (h0 : -9223372036854775808 ≤ n) (h1 : n ≤ 9223372036854775807) :
    Calls Tryz.prog 29 #[.int .i64 n] w fun e w' => e = .returned (.string ⟨(Lib.itoa n).toArray⟩) ∧ Still w w' :=
  (Any.strconv_Itoa Tryz.laysM171 n h0 h1 w (by
    unfold Lib.TabIs World.var?
    obtain ⟨t, fr, hh⟩ := powTab hm hg hs
    rw [show Tryz.prog.globalNamed _ = some 1 by kernel_rfl, Option.bind_some, hh])).mono fun e w' ⟨he, k, os, hw⟩ => ⟨he, by
      subst hw
      refine ⟨rfl, rfl, rfl, by simp [grow], fun j hj _ => ?_⟩
      show (w.heap ++ os)[j]? = _
      rw [Array.getElem?_append_left hj]⟩
def itoaI : IF := ⟨.fn 29, [.h (.int .i64)], [], _, RS.mk (.h .str) []⟩
theorem itoa_ok (hg : LC.glob 1 = some ⟨.int .u64, Lib.pow10Tab⟩) (hs : (1, 20) ∈ LC.sizes) : (itoaI.e F_strconv_Itoa).Sound Tryz.prog := fun d d' r h => by
  have h : F_strconv_Itoa d.1 = some r := h
  unfold F_strconv_Itoa at h
  cases hd : decide (-9223372036854775808 ≤ (show Int from d.1) ∧ (show Int from d.1) ≤ 9223372036854775807) <;> rw [hd] at h <;> simp only [cond_true, cond_false, reduceCtorEq] at h
  have h := Option.some.inj h
  subst h
  have hd := of_decide_eq_true hd
  refine ⟨Tryz.call29, CallsTo.data fun w G vs hm hr => ?_⟩
  match vs, hr with
  | [v], ⟨h1, _⟩ =>
    have h1 : v = .int .i64 d.1 := h1
    subst h1
    exact (itoa_calls hm hg hs _ hd.1 hd.2).mono fun e w' ⟨he, hw⟩ => ⟨_, he, rfl, hw⟩
theorem index_calls {G : Gh} {w : World} (hm : Mem G [] w) (hi : 0 ∈ LC.ints) {a b : Bs} {u v : Value} (hu : Rep (.sl .byte a) G u) (hv : Rep (.sl .byte b) G v) (h2 : 2 ≤ b.length) (hb : b.length ≤ maxLen) (ha : a.length < 4294967281) :
    Calls Tryz.prog 80 #[u, v] w fun e w' => e = .returned (.int .i64 (Lib.index a b)) ∧ Still w w' := by
  obtain ⟨p, c, rfl, hc, hp⟩ : SlAt 1 (Ty.byte.At G.imm) a u := hu
  obtain ⟨q, d, rfl, hd, hq⟩ : SlAt 1 (Ty.byte.At G.imm) b v := hv
  by_cases hlt : a.length < b.length
  · have h := Any.bytes_Index_longer Tryz.lays185 p q a.length c b.length d w h2 hlt (by unfold maxLen at hb; omega)
    rw [Lib.index_past (i := 0) (by intro e; subst e; simp at h2) (fun j hj => absurd hj (Nat.not_lt_zero _)) (by simpa using hlt)]
    exact h.mono fun e w' ⟨he, hw⟩ => ⟨he, by subst hw; exact Still.refl _⟩
  · rcases hp with rfl | ⟨g, o, rfl, hcells⟩
    · exact absurd (show ([] : Bs).length < b.length from by show 0 < _; omega) hlt
    rcases hq with rfl | ⟨g', o', rfl, hcells'⟩
    · exact absurd h2 (by show ¬ 2 ≤ 0; omega)
    obtain ⟨k, hk⟩ := hm.tab.2.1 _ hi
    have hk := hm.agree _ _ _ hk
    have bb : ∀ l : Bs, Lib.bytesOf (l.map fun x => (x.toNat : Int)) = l := fun l => by
      unfold Lib.bytesOf
      rw [List.map_map]
      have : ((fun n : Int => UInt8.ofNat n.toNat) ∘ fun x : UInt8 => (x.toNat : Int)) = id := by funext x; simp
      rw [this, List.map_id]
    have cl : ∀ (l : Bs) (g o : Nat), (∀ (j : Nat) (x : UInt8), l[j]? = some x → Ty.byte.At G.imm x g (o + j * 1)) → ∀ i, i < l.length → w.cell? ((⟨g, o, none⟩ : Addr).add i) = some (.int .u8 ((l.map fun x => (x.toNat : Int)).getD i 0)) := fun l g o h i hi => by
      have h1 : G.imm g (o + i * 1) = some (.int .u8 l[i].toNat) := h i _ (List.getElem?_eq_getElem hi)
      have h1 := hm.agree _ _ _ h1
      rw [Nat.mul_one] at h1
      rw [Lib.add_plain', h1]
      simp [List.getD_eq_getElem?_getD, hi]
    have rg : ∀ l : Bs, ∀ x ∈ l.map (fun x => (x.toNat : Int)), 0 ≤ x ∧ x < 256 := fun l x hx => by
      obtain ⟨c, _, rfl⟩ := List.mem_map.1 hx
      have := c.toNat_lt; omega
    have h := Any.bytes_Index_at Tryz.lays185 ⟨g, o, none⟩ ⟨g', o', none⟩ a.length c b.length d (a.map fun x => (x.toNat : Int)) (b.map fun x => (x.toNat : Int)) k w (by simp) (by simp) (rg a) (rg b) (cl a g o hcells) (cl b g' o' hcells') hc ha (by unfold maxLen at hb; omega) hk
    rw [bb, bb] at h
    exact h.mono fun e w' ⟨he, n, hw⟩ => ⟨he, by subst hw; exact ⟨rfl, rfl, rfl, Nat.le_refl _, fun _ _ _ => rfl⟩⟩
def bindexI : IF := ⟨.fn 80, [.h (.list .byte), .h (.list .byte)], [], _, RS.mk (.h (.int .i64)) []⟩
theorem bindex_ok (hi : 0 ∈ LC.ints) : (bindexI.e F_bytes_Index).Sound Tryz.prog := fun d d' r h => by
  obtain ⟨a, b, _⟩ := d
  have h : F_bytes_Index a b = some r := h
  unfold F_bytes_Index at h
  cases hd : decide (2 ≤ List.length (α := UInt8) b ∧ List.length (α := UInt8) a < 4294967281 ∧ List.length (α := UInt8) b ≤ maxLen) <;> rw [hd] at h <;> simp only [cond_true, cond_false, reduceCtorEq] at h
  have h := Option.some.inj h
  subst h
  have hd := of_decide_eq_true hd
  refine ⟨Tryz.call80, CallsTo.data fun w G vs hm hr => ?_⟩
  match vs, hr with
  | [u, v], ⟨h1, h2, _⟩ =>
    exact (index_calls hm hi h1 h2 hd.1 hd.2.2 hd.2.1).mono fun e w' ⟨he, hw⟩ => ⟨_, he, rfl, hw⟩
end Go.Sym
/- slices.Clone. -/
namespace Go.Sym
open Go.Proofs Go.RowKit
variable [LC]
omit [LC] in
theorem heap_alloc_lt (w : World) (o : Obj) {k : Nat} (hk : k < w.heap.size) : (w.alloc o).heap[k]? = w.heap[k]? := by
  show (w.heap.push _)[k]? = _
  rw [Array.getElem?_push_lt hk]; exact (Array.getElem?_eq_getElem hk).symm
omit [LC] in
theorem rowAt_empty (w : World) (E : TypeId) (sz : Nat) : RowAt (w.alloc (.cells #[] E)) E sz (some ⟨w.heap.size, 0, none⟩) 0 0 [] :=
  ⟨by simp, .inr ⟨w.heap.size, #[], (0, 0), rfl, by show (w.heap.push _)[w.heap.size]? = _; simp, .inl rfl, Nat.le_refl _, by unfold maxLen; omega, by simp, by simp, by simp⟩⟩
set_option maxRecDepth 100000 in
theorem clone64_to (l : List (.prod .str .str : Ty).den) (hd : l.length ≤ rowMax) : CallsTo Tryz.prog 64 [.sl (.prod .str .str) l] [] (.own 0) [(0, .row (.prod .str .str) l 39)] := by
  refine CallsTo.fresh fun w G vs hm hr => ?_
  match vs, hr with
  | [v], ⟨h1, _⟩ =>
    obtain ⟨news, k1, k2, k3, k4⟩ := sl_src (P := Tryz.prog) hm h1
    have hnl : news.length = l.length * (.prod .str .str : Ty).sz := by rw [← k3.length]; exact flat_len l
    obtain ⟨p, c, rfl, hc, hp⟩ : SlAt (.prod .str .str : Ty).sz ((.prod .str .str : Ty).At G.imm) l v := h1
    cases p with
    | none =>
      have hl : l = [] := by
        rcases hp with h | ⟨_, _, h, _⟩
        · exact h
        · cases h
      subst hl
      have e0 : news = [] := List.eq_nil_of_length_eq_zero (by rw [hnl]; exact Nat.zero_mul _)
      subst e0
      have hg : Calls Tryz.prog 64 #[.slice none 0 c] w fun e w' => e = .returned (.slice none 0 0) ∧ w' = w := by
        clear hp hr k1 k2 hm hnl hc hd k3 k4
        have q22 : ∀ (w : World) (a : Option Addr) (n c n' c' : Nat), (binOp .eql 22 (.slice a n c) (.slice none n' c')).run Tryz.prog w = .ok (.bool a.isNone) w := fun w a n c n' c' => Lib.run_eql_slice_nil w _ _ a n c n' c' Tryz.underlying22
        have u22 : ∀ w, Sem.run Tryz.prog (underlying 22) w = .ok (TypeDesc.slice 39) w := run_underlying Tryz.underlying22
        go_enter Tryz.func64, Tryz.ntmps64
        go_wp2
        go_ret
        exact ⟨rfl, rfl⟩
      exact hg.mono fun e w' ⟨he, hw⟩ => ⟨none, 0, [], he, ⟨rfl, .inl ⟨rfl, rfl, rfl⟩⟩, k3, fun b hb => (by cases hb), by subst hw; exact Still.refl _⟩
    | some ad =>
      generalize hn : l.length = n at *
      have hg : Calls Tryz.prog 64 #[.slice (some ad) n c] w fun e w' => ∃ ad' c', e = .returned (.slice ad' n c') ∧ RowAt w' 39 (.prod .str .str : Ty).sz ad' n c' news ∧ (∀ b, blkOf ad' = some b → w.heap.size ≤ b) ∧ Still w w' := by
        clear hm k3 hr hp hn
        have q22 : ∀ (w : World) (a : Option Addr) (n c n' c' : Nat), (binOp .eql 22 (.slice a n c) (.slice none n' c')).run Tryz.prog w = .ok (.bool a.isNone) w := fun w a n c n' c' => Lib.run_eql_slice_nil w _ _ a n c n' c' Tryz.underlying22
        have u22 : ∀ w, Sem.run Tryz.prog (underlying 22) w = .ok (TypeDesc.slice 39) w := run_underlying Tryz.underlying22
        go_enter Tryz.func64, Tryz.ntmps64
        go_wp2_with (at_builtin; refine wpList_append_row rfl _ _ 22 rfl (E := 39) (sz := (.prod .str .str : Ty).sz) (by kernel_rfl) (by kernel_rfl) (by kernel_rfl) (by kernel_rfl) rfl (rowAt_empty w 39 _) rfl k1 ?qc hnl k4 (by omega) ?_)
        case qc => exact fun w' hw' => k2 w' fun k hk => by rw [hw']; exact heap_alloc_lt w _ hk
        intro ad' c' w1 hrow hblk hbel
        go_wp2
        go_ret
        refine ⟨ad', c', rfl, by simpa using hrow, fun b hb => ?_, ⟨hbel.os, hbel.tape, hbel.output, Nat.le_trans (by show w.heap.size ≤ (w.heap.push _).size; simp) hbel.size, fun k hk _ => ?_⟩⟩
        · rcases hblk with h | ⟨g, h, hg⟩
          · rw [h] at hb; injection hb with hb; have hb : w.heap.size = b := hb; omega
          · rw [h] at hb; injection hb with hb
            have : w.heap.size ≤ (w.alloc (.cells #[] 39)).heap.size := by show w.heap.size ≤ (w.heap.push _).size; simp
            omega
        · rw [hbel.block k (by show k < (w.heap.push _).size; simp; omega) (fun e => by injection e with e; have e : w.heap.size = k := e; omega)]
          exact heap_alloc_lt w _ hk
      exact hg.mono fun e w' ⟨ad', c', he, hrow, hb, hs⟩ => ⟨ad', c', news, he, hrow, k3, hb, hs⟩
def clone64I : IF := ⟨.fn 64, [.h (.list (.prod .str .str))], [], _, RS.mk (.own 0) [(0, .row (.prod .str .str) 39)]⟩
theorem clone64_ok : (clone64I.e (F_slices_Clone (α := (.prod .str .str : Ty).den))).Sound Tryz.prog := fun d d' r h => by
  obtain ⟨l, _⟩ := d
  have h : (bif decide (List.length (α := (.prod .str .str : Ty).den) l ≤ rowMax) then some (show List (.prod .str .str : Ty).den from l) else none) = some r := h
  cases hd : decide (List.length (α := (.prod .str .str : Ty).den) l ≤ rowMax) <;> rw [hd] at h <;> simp only [cond_true, cond_false, reduceCtorEq] at h
  have h := Option.some.inj h
  subst h
  exact ⟨Tryz.call64, clone64_to l (of_decide_eq_true hd)⟩
set_option maxRecDepth 100000 in
theorem clone65_to (l : List (.byte : Ty).den) (hd : l.length ≤ rowMax) : CallsTo Tryz.prog 65 [.sl (.byte) l] [] (.own 0) [(0, .row (.byte) l 5)] := by
  refine CallsTo.fresh fun w G vs hm hr => ?_
  match vs, hr with
  | [v], ⟨h1, _⟩ =>
    obtain ⟨news, k1, k2, k3, k4⟩ := sl_src (P := Tryz.prog) hm h1
    have hnl : news.length = l.length * (.byte : Ty).sz := by rw [← k3.length]; exact flat_len l
    obtain ⟨p, c, rfl, hc, hp⟩ : SlAt (.byte : Ty).sz ((.byte : Ty).At G.imm) l v := h1
    cases p with
    | none =>
      have hl : l = [] := by
        rcases hp with h | ⟨_, _, h, _⟩
        · exact h
        · cases h
      subst hl
      have e0 : news = [] := List.eq_nil_of_length_eq_zero (by rw [hnl]; exact Nat.zero_mul _)
      subst e0
      have hg : Calls Tryz.prog 65 #[.slice none 0 c] w fun e w' => e = .returned (.slice none 0 0) ∧ w' = w := by
        clear hp hr k1 k2 hm hnl hc hd k3 k4
        have q22 : ∀ (w : World) (a : Option Addr) (n c n' c' : Nat), (binOp .eql 25 (.slice a n c) (.slice none n' c')).run Tryz.prog w = .ok (.bool a.isNone) w := fun w a n c n' c' => Lib.run_eql_slice_nil w _ _ a n c n' c' Tryz.underlying25
        have u22 : ∀ w, Sem.run Tryz.prog (underlying 25) w = .ok (TypeDesc.slice 5) w := run_underlying Tryz.underlying25
        go_enter Tryz.func65, Tryz.ntmps65
        go_wp2
        go_ret
        exact ⟨rfl, rfl⟩
      exact hg.mono fun e w' ⟨he, hw⟩ => ⟨none, 0, [], he, ⟨rfl, .inl ⟨rfl, rfl, rfl⟩⟩, k3, fun b hb => (by cases hb), by subst hw; exact Still.refl _⟩
    | some ad =>
      generalize hn : l.length = n at *
      have hg : Calls Tryz.prog 65 #[.slice (some ad) n c] w fun e w' => ∃ ad' c', e = .returned (.slice ad' n c') ∧ RowAt w' 5 (.byte : Ty).sz ad' n c' news ∧ (∀ b, blkOf ad' = some b → w.heap.size ≤ b) ∧ Still w w' := by
        clear hm k3 hr hp hn
        have q22 : ∀ (w : World) (a : Option Addr) (n c n' c' : Nat), (binOp .eql 25 (.slice a n c) (.slice none n' c')).run Tryz.prog w = .ok (.bool a.isNone) w := fun w a n c n' c' => Lib.run_eql_slice_nil w _ _ a n c n' c' Tryz.underlying25
        have u22 : ∀ w, Sem.run Tryz.prog (underlying 25) w = .ok (TypeDesc.slice 5) w := run_underlying Tryz.underlying25
        go_enter Tryz.func65, Tryz.ntmps65
        go_wp2_with (at_builtin; refine wpList_append_row rfl _ _ 25 rfl (E := 5) (sz := (.byte : Ty).sz) (by kernel_rfl) (by kernel_rfl) (by kernel_rfl) (by kernel_rfl) rfl (rowAt_empty w 5 _) rfl k1 ?qc hnl k4 (by omega) ?_)
        case qc => exact fun w' hw' => k2 w' fun k hk => by rw [hw']; exact heap_alloc_lt w _ hk
        intro ad' c' w1 hrow hblk hbel
        go_wp2
        go_ret
        refine ⟨ad', c', rfl, by simpa using hrow, fun b hb => ?_, ⟨hbel.os, hbel.tape, hbel.output, Nat.le_trans (by show w.heap.size ≤ (w.heap.push _).size; simp) hbel.size, fun k hk _ => ?_⟩⟩
        · rcases hblk with h | ⟨g, h, hg⟩
          · rw [h] at hb; injection hb with hb; have hb : w.heap.size = b := hb; omega
          · rw [h] at hb; injection hb with hb
            have : w.heap.size ≤ (w.alloc (.cells #[] 5)).heap.size := by show w.heap.size ≤ (w.heap.push _).size; simp
            omega
        · rw [hbel.block k (by show k < (w.heap.push _).size; simp; omega) (fun e => by injection e with e; have e : w.heap.size = k := e; omega)]
          exact heap_alloc_lt w _ hk
      exact hg.mono fun e w' ⟨ad', c', he, hrow, hb, hs⟩ => ⟨ad', c', news, he, hrow, k3, hb, hs⟩
def clone65I : IF := ⟨.fn 65, [.h (.list (.byte))], [], _, RS.mk (.own 0) [(0, .row (.byte) 5)]⟩
theorem clone65_ok : (clone65I.e (F_slices_Clone (α := (.byte : Ty).den))).Sound Tryz.prog := fun d d' r h => by
  obtain ⟨l, _⟩ := d
  have h : (bif decide (List.length (α := (.byte : Ty).den) l ≤ rowMax) then some (show List (.byte : Ty).den from l) else none) = some r := h
  cases hd : decide (List.length (α := (.byte : Ty).den) l ≤ rowMax) <;> rw [hd] at h <;> simp only [cond_true, cond_false, reduceCtorEq] at h
  have h := Option.some.inj h
  subst h
  exact ⟨Tryz.call65, clone65_to l (of_decide_eq_true hd)⟩
end Go.Sym
/- strings.Repeat, out of the kit's contracts. -/
namespace Go.Sym
open Go.Proofs Go.RowKit
variable [LC]
omit [LC] in
theorem bextra105 : Builder.Extra Tryz.prog Tryz.lays105_ren := {
  sizeBuilder := by kernel_rfl
  liesBuilder := by kernel_rfl
  t5 := Tryz.lays105.t5
  a5 := Tryz.lays105.a5
  z5 := Tryz.lays105.z5
  v5 := Tryz.lays105.v5
  infoByte := by kernel_rfl
  cellsByte := by kernel_rfl
  sizeByte := by kernel_rfl
  neB5 := by decide }
omit [LC] in
theorem repeat_calls {w : World} (s : Bs) (n : Int) (d1 : 0 ≤ n) (d2 : n ≤ 9223372036854775807) (d3 : s.length * n.toNat ≤ 140737488355328) :
    Calls Tryz.prog 37 #[.string ⟨s.toArray⟩, .int .i64 n] w fun e w' => e = .returned (.string ⟨(Lib.repeatL s n.toNat).toArray⟩) ∧ Still w w' := by
  have hn : n = ((n.toNat : Nat) : Int) := by omega
  have key := Any.strings_Repeat Tryz.lays105 bextra105 ⟨s.toArray⟩ n.toNat w (by omega) (by rw [size_mk]; exact d3)
  rw [← hn] at key
  exact key.mono fun e w' ⟨he, hw⟩ => ⟨he, Still.of_below hw⟩
def repeatI : IF := ⟨.fn 37, [.h .str, .h (.int .i64)], [], _, RS.mk (.h .str) []⟩
theorem repeat_ok : (repeatI.e F_strings_Repeat).Sound Tryz.prog := fun d d' r h => by
  obtain ⟨s, n, _⟩ := d
  have h : F_strings_Repeat s n = some r := h
  unfold F_strings_Repeat at h
  cases hd : decide (0 ≤ (show Int from n) ∧ (show Int from n) ≤ 9223372036854775807 ∧ List.length (α := UInt8) s * (show Int from n).toNat ≤ 140737488355328) <;> rw [hd] at h <;> simp only [cond_true, cond_false, reduceCtorEq] at h
  have h := Option.some.inj h
  subst h
  obtain ⟨d1, d2, d3⟩ := of_decide_eq_true hd
  refine ⟨Tryz.call37, CallsTo.data fun w G vs hm hr => ?_⟩
  match vs, hr with
  | [u, v], ⟨h1, h2, _⟩ =>
    have h1 : u = .string ⟨s.toArray⟩ := h1
    have h2 : v = .int .i64 n := h2
    subst h1 h2
    exact (repeat_calls s n d1 d2 d3).mono fun e w' ⟨he, hw⟩ => ⟨_, he, rfl, hw⟩
end Go.Sym
/- The Go functions compute the plain functions: printed by a program; each is reckoned by the kernel. -/
namespace Go.Sym
open Go.Proofs
set_option linter.unusedVariables false
set_option maxRecDepth 100000
set_option maxHeartbeats 2000000
def globOf : Nat → Option ((τ : Ty) × List τ.den)
  | 1 => some ⟨.int .u64, tab1⟩
  | 2 => some ⟨.byte, tab2⟩
  | 3 => some ⟨.prod .byte .byte, tab3⟩
  | _ => none
noncomputable def lcOf : Nat → Option (Code × Code)
  | 0 => some (child 0 (sub (bodyOf Tryz.f23) [0, 1, 0, 1, 1, 1]), child 1 (sub (bodyOf Tryz.f23) [0, 1, 0, 1, 1, 1]))
  | 1 => some (child 0 (sub (bodyOf Tryz.f88) [0, 1, 0, 1, 1, 1]), child 1 (sub (bodyOf Tryz.f88) [0, 1, 0, 1, 1, 1]))
  | 2 => some (child 0 (sub (bodyOf Tryz.f41) [0, 1, 0, 1, 1]), child 1 (sub (bodyOf Tryz.f41) [0, 1, 0, 1, 1]))
  | 3 => some (child 0 (sub (bodyOf Tryz.f41) [0, 1, 0, 1, 1, 1, 1]), child 1 (sub (bodyOf Tryz.f41) [0, 1, 0, 1, 1, 1, 1]))
  | 4 => some (child 0 (sub (bodyOf Tryz.f13) [0, 1, 0, 1, 1, 1, 1]), child 1 (sub (bodyOf Tryz.f13) [0, 1, 0, 1, 1, 1, 1]))
  | 5 => some (child 0 (sub (bodyOf Tryz.f42) [0, 1, 1]), child 1 (sub (bodyOf Tryz.f42) [0, 1, 1]))
  | _ => none
noncomputable instance : LC := ⟨lcOf, globOf, [0], [6, 7], [(1, 20), (2, 256), (3, 32)]⟩
theorem Tryz_mixed : Tryz.prog.follows .mixedOrders = true := by kernel_rfl
def etys : List (Nat × Ty) := [(3, .int .i64), (4, .bool), (5, .byte), (9, .str), (25, .list .byte), (39, .prod .str .str)]
noncomputable abbrev fx {i : IF} := @Fx.mk inferInstance Tryz.prog i etys Tryz_mixed
theorem F_bytealg_IndexByteString_ok233 : (F_bytealg_IndexByteString_ent 233 F_bytealg_IndexByte).Sound Tryz.prog := F_bytealg_IndexByteString_ok Tryz.func233 (by kernel_rfl) (by kernel_rfl) (by kernel_rfl) (by kernel_rfl)
/- posthouse/basic.Fault -/
def x0i : IF := ⟨.fn 16, [.h (.int .i64), .h (.int .i64)], [], _, RS.mk (.h (.prod (.int .i64) (.int .i64))) []⟩
noncomputable def x0 : Fx Tryz.prog x0i := fx Tryz.f16 16 Tryz.func16 [] false [] tags0 []
noncomputable def x0s : EI Tryz.prog x0i := x0.fin F_basic_Fault [] Tryz.call16 rfl rfl (by kernel_rfl) fun d d' => by kernel_rfl
/- posthouse/fold.name$1 -/
def x1i : IF := ⟨.fn 75, [.h .byte], [], _, RS.mk (.h .bool) []⟩
noncomputable def x1 : Fx Tryz.prog x1i := fx Tryz.f75 75 Tryz.func75 [] false [] tags0 []
noncomputable def x1s : EI Tryz.prog x1i := x1.fin F_fold_name_1 [] Tryz.call75 rfl rfl (by kernel_rfl) fun d d' => by kernel_rfl
/- posthouse/basic.All -/
def x2i : IF := ⟨.fn 74, [.h .str, .fn 75 []], [], _, RS.mk (.h .bool) []⟩
noncomputable def x2 (fu : Nat) : Fx Tryz.prog x2i := fx Tryz.f74 74 Tryz.func74 [x1s.p] false [] tags0 [(pkey [(0, 104), (0, 105), (2, 26), (1, 13), (0, 7)], ⟨18, [(0, .h .str), (1, .fn 75 []), (7, .h (.int .i64)), (8, .h (.int .i64))], [], 64, []⟩)]
noncomputable def x2p0 (fu : Nat) : Nat → (x2 fu).L 0 := Fx.lp (F_basic_All_p0 fu) (F_basic_All_b0 fu) (fun _ => rfl) (fun _ => rfl) (fun r0 => [r0.s]) fun _ d => by kernel_rfl
noncomputable def x2s (fu : Nat) : EI Tryz.prog x2i := (x2 fu).fin (F_basic_All fu) [(x2p0 fu fu).s] Tryz.call74 rfl rfl (by kernel_rfl) fun d d' => by kernel_rfl
/- posthouse/fold.name -/
def x3i : IF := ⟨.fn 46, [.h .str], [], _, RS.mk (.h .bool) []⟩
noncomputable def x3 (fu : Nat) : Fx Tryz.prog x3i := fx Tryz.f46 46 Tryz.func46 [(x2s fu).p] false [] tags0 []
noncomputable def x3s (fu : Nat) : EI Tryz.prog x3i := (x3 fu).fin (F_fold_name fu) [] Tryz.call46 rfl rfl (by kernel_rfl) fun d d' => by kernel_rfl
/- strings.shouldUseASCIISet -/
def x4i : IF := ⟨.fn 170, [.h (.int .i64)], [], _, RS.mk (.h .bool) []⟩
noncomputable def x4 : Fx Tryz.prog x4i := fx Tryz.f170 170 Tryz.func170 [] false [] tags0 []
noncomputable def x4s : EI Tryz.prog x4i := x4.fin F_strings_shouldUseASCIISet [] Tryz.call170 rfl rfl (by kernel_rfl) fun d d' => by kernel_rfl
/- strings.makeASCIISet -/
def x5i : IF := ⟨.fn 151, [.h .str], [], _, RS.mk (.tup [.arr .bool, .h .bool]) []⟩
noncomputable def x5 (fu : Nat) : Fx Tryz.prog x5i := fx Tryz.f151 151 Tryz.func151 [] false [] tags0 [(pkey [(0, 208), (0, 209), (0, 105), (2, 26), (1, 13), (0, 7)], ⟨21, [(0, .h .str), (2, .el 32 1), (4, .h (.int .i64))], [(32, .row .bool 214)], 64, []⟩)]
noncomputable def x5p0 (fu : Nat) : Nat → (x5 fu).L 0 := Fx.lp (F_strings_makeASCIISet_p0 fu) (F_strings_makeASCIISet_b0 fu) (fun _ => rfl) (fun _ => rfl) (fun r0 => [r0.s]) fun _ d => by kernel_rfl
noncomputable def x5s (fu : Nat) : EI Tryz.prog x5i := (x5 fu).fin (F_strings_makeASCIISet fu) [(x5p0 fu fu).s] Tryz.call151 rfl rfl (by kernel_rfl) fun d d' => by kernel_rfl
/- internal/stringslite.IndexByte -/
def x6i : IF := ⟨.fn 217, [.h .str, .h .byte], [], _, RS.mk (.h (.int .i64)) []⟩
noncomputable def x6 : Fx Tryz.prog x6i := fx Tryz.f217 217 Tryz.func217 [⟨F_bytealg_IndexByteString_ent 233 F_bytealg_IndexByte, F_bytealg_IndexByteString_ok233⟩] false [] tags0 []
noncomputable def x6s : EI Tryz.prog x6i := x6.fin F_internal_stringslite_IndexByte [] Tryz.call217 rfl rfl (by kernel_rfl) fun d d' => by kernel_rfl
/- strings.IndexByte -/
def x7i : IF := ⟨.fn 193, [.h .str, .h .byte], [], _, RS.mk (.h (.int .i64)) []⟩
noncomputable def x7 : Fx Tryz.prog x7i := fx Tryz.f193 193 Tryz.func193 [x6s.p] false [] tags0 []
noncomputable def x7s : EI Tryz.prog x7i := x7.fin F_strings_IndexByte [] Tryz.call193 rfl rfl (by kernel_rfl) fun d d' => by kernel_rfl
/- unicode/utf8.ValidRune -/
def x8i : IF := ⟨.fn 194, [.h (.int .i32)], [], _, RS.mk (.h .bool) []⟩
noncomputable def x8 : Fx Tryz.prog x8i := fx Tryz.f194 194 Tryz.func194 [] false [] tags0 []
noncomputable def x8s : EI Tryz.prog x8i := x8.fin F_unicode_utf8_ValidRune [] Tryz.call194 rfl rfl (by kernel_rfl) fun d d' => by kernel_rfl
/- strings.IndexRune -/
def x9i : IF := ⟨.fn 169, [.h .str, .h (.int .i32)], [], _, RS.mk (.h (.int .i64)) []⟩
noncomputable def x9 (fu : Nat) : Fx Tryz.prog x9i := fx Tryz.f169 169 Tryz.func169 [x7s.p, x8s.p] false [] tags0 [(pkey [(0, 3528), (0, 3529), (2, 882), (1, 441), (0, 221), (1, 3)], ⟨187, [(175, .ptr 32 0)], [(32, .it)], 64, []⟩), (pkey [(0, 117301840), (0, 117301841), (0, 58650921), (2, 14662730), (1, 7331365), (0, 3665683), (3, 458210), (1, 229105), (2, 57276), (1, 28638), (0, 28639), (3, 447), (1, 3)], ⟨187, [(0, .h .str), (7, .h .str), (8, .h (.int .i64)), (9, .h (.int .i64)), (12, .h (.int .i64))], [], 64, []⟩), (pkey [(0, 7331364), (0, 7331365), (0, 3665683), (3, 458210), (1, 229105), (2, 57276), (1, 28638), (0, 28639), (3, 447), (1, 3)], ⟨187, [(0, .h .str), (7, .h .str), (8, .h (.int .i64)), (9, .h (.int .i64))], [], 64, []⟩), (pkey [(0, 458208), (0, 458209), (0, 229105), (2, 57276), (1, 28638), (0, 28639), (3, 447), (1, 3)], ⟨187, [(0, .h .str), (7, .h .str), (8, .h (.int .i64)), (9, .h (.int .i64))], [], 64, []⟩), (pkey [(0, 13), (1, 3)], ⟨187, [(0, .h .str), (1, .h (.int .i32)), (160, .h .bool)], [], 64, []⟩)]
noncomputable def x9p1 (fu : Nat) : Nat → (x9 fu).L 0 := Fx.lp (F_strings_IndexRune_p1 fu) (F_strings_IndexRune_b1 fu) (fun _ => rfl) (fun _ => rfl) (fun r1 => [r1.s]) fun _ d => by kernel_rfl
noncomputable def x9p4 (fu : Nat) (r2 : (x9 fu).L 3) : Nat → (x9 fu).L 1 := Fx.lp (F_strings_IndexRune_p4 fu r2.f) (F_strings_IndexRune_b4 fu r2.f) (fun _ => rfl) (fun _ => rfl) (fun r4 => [r4.s]) fun _ d => by kernel_rfl
noncomputable def x9p3 (fu : Nat) (r2 : (x9 fu).L 3) : (x9 fu).L 2 := Fx.jn (F_strings_IndexRune_p3 fu r2.f) [(x9p4 fu r2 fu).s] fun d => by kernel_rfl
noncomputable def x9p2 (fu : Nat) : Nat → (x9 fu).L 3 := Fx.lp (F_strings_IndexRune_p2 fu) (F_strings_IndexRune_b2 fu) (fun _ => rfl) (fun _ => rfl) (fun r2 => [(x9p3 fu r2).s]) fun _ d => by kernel_rfl
noncomputable def x9p0 (fu : Nat) : (x9 fu).L 4 := Fx.jn (F_strings_IndexRune_p0 fu) [(x9p1 fu fu).s, (x9p2 fu fu).s] fun d => by kernel_rfl
noncomputable def x9s (fu : Nat) : EI Tryz.prog x9i := (x9 fu).fin (F_strings_IndexRune fu) [(x9p0 fu).s] Tryz.call169 rfl rfl (by kernel_rfl) fun d d' => by kernel_rfl
/- (*strings.asciiSet).contains -/
def x10i : IF := ⟨.fn 171, [.el 0 1, .h .byte], [(0, .row .bool 214)], _, RS.mk (.h .bool) [(0, .row .bool 214)]⟩
noncomputable def x10 : Fx Tryz.prog x10i := fx Tryz.f171 171 Tryz.func171 [] false [] tags0 []
noncomputable def x10s : EI Tryz.prog x10i := x10.fin F_strings_asciiSet_contains [] Tryz.call171 rfl rfl (by kernel_rfl) fun d d' => by kernel_rfl
/- strings.IndexAny -/
def x11i : IF := ⟨.fn 134, [.h .str, .h .str], [], _, RS.mk (.h (.int .i64)) []⟩
noncomputable def x11 (fu : Nat) : Fx Tryz.prog x11i := fx Tryz.f134 134 Tryz.func134 [x4s.p, (x5s fu).p, (x9s fu).p, x10s.p] false [] tags0 [(pkey [(0, 470), (0, 471), (0, 15)], ⟨55, [(0, .h .str), (5, .h (.int .i32))], [], 64, []⟩), (pkey [(0, 62864), (0, 62865), (0, 31433), (2, 7858), (1, 3929), (0, 1965), (0, 31)], ⟨55, [(0, .h .str), (6, .el 32 1), (8, .h (.int .i64))], [(32, .row .bool 214)], 64, []⟩), (pkey [(0, 1000), (0, 1001), (2, 250), (1, 125), (0, 63)], ⟨55, [(1, .h .str), (45, .ptr 32 0)], [(32, .it)], 64, []⟩), (pkey [(0, 124), (0, 125), (0, 63)], ⟨55, [(0, .h .str), (1, .h .str)], [], 64, []⟩)]
noncomputable def x11p0 (fu : Nat) : (x11 fu).L 0 := Fx.jn (F_strings_IndexAny_p0 fu) [] fun d => by kernel_rfl
noncomputable def x11p1 (fu : Nat) : Nat → (x11 fu).L 1 := Fx.lp (F_strings_IndexAny_p1 fu) (F_strings_IndexAny_b1 fu) (fun _ => rfl) (fun _ => rfl) (fun r1 => [r1.s]) fun _ d => by kernel_rfl
noncomputable def x11p3 (fu : Nat) : Nat → (x11 fu).L 2 := Fx.lp (F_strings_IndexAny_p3 fu) (F_strings_IndexAny_b3 fu) (fun _ => rfl) (fun _ => rfl) (fun r3 => [r3.s]) fun _ d => by kernel_rfl
noncomputable def x11p2 (fu : Nat) : (x11 fu).L 3 := Fx.jn (F_strings_IndexAny_p2 fu) [(x11p3 fu fu).s] fun d => by kernel_rfl
noncomputable def x11s (fu : Nat) : EI Tryz.prog x11i := (x11 fu).fin (F_strings_IndexAny fu) [(x11p0 fu).s, (x11p1 fu fu).s, (x11p2 fu).s] Tryz.call134 rfl rfl (by kernel_rfl) fun d d' => by kernel_rfl
/- strings.ContainsAny -/
def x12i : IF := ⟨.fn 100, [.h .str, .h .str], [], _, RS.mk (.h .bool) []⟩
noncomputable def x12 (fu : Nat) : Fx Tryz.prog x12i := fx Tryz.f100 100 Tryz.func100 [(x11s fu).p] false [] tags0 []
noncomputable def x12s (fu : Nat) : EI Tryz.prog x12i := (x12 fu).fin (F_strings_ContainsAny fu) [] Tryz.call100 rfl rfl (by kernel_rfl) fun d d' => by kernel_rfl
/- posthouse/fold.ends -/
def x13i : IF := ⟨.fn 76, [.h .str], [], _, RS.mk (.h .bool) []⟩
noncomputable def x13 (fu : Nat) : Fx Tryz.prog x13i := fx Tryz.f76 76 Tryz.func76 [(x12s fu).p] false [] tags0 []
noncomputable def x13s (fu : Nat) : EI Tryz.prog x13i := (x13 fu).fin (F_fold_ends fu) [] Tryz.call76 rfl rfl (by kernel_rfl) fun d d' => by kernel_rfl
/- posthouse/basic.Blank -/
def x14i : IF := ⟨.fn 49, [.h .byte], [], _, RS.mk (.h .bool) []⟩
noncomputable def x14 : Fx Tryz.prog x14i := fx Tryz.f49 49 Tryz.func49 [] false [] tags0 []
noncomputable def x14s : EI Tryz.prog x14i := x14.fin F_basic_Blank [] Tryz.call49 rfl rfl (by kernel_rfl) fun d d' => by kernel_rfl
/- posthouse/fold.value -/
def x15i : IF := ⟨.fn 47, [.h .str], [], _, RS.mk (.h .bool) []⟩
noncomputable def x15 (fu : Nat) : Fx Tryz.prog x15i := fx Tryz.f47 47 Tryz.func47 [(x13s fu).p, x14s.p] false [] tags0 []
noncomputable def x15s (fu : Nat) : EI Tryz.prog x15i := (x15 fu).fin (F_fold_value fu) [] Tryz.call47 rfl rfl (by kernel_rfl) fun d d' => by kernel_rfl
/- posthouse/fold.point -/
def x16i : IF := ⟨.fn 48, [.h .str, .h (.int .i64)], [], _, RS.mk (.h (.int .i64)) []⟩
noncomputable def x16 (fu : Nat) : Fx Tryz.prog x16i := fx Tryz.f48 48 Tryz.func48 [x14s.p] false [] tags0 [(pkey [(0, 3729), (0, 1865), (1, 466), (0, 467), (2, 58), (1, 29), (0, 15)], ⟨35, [(0, .h .str), (5, .h (.int .i64)), (6, .h (.int .i64)), (26, .h .bool)], [], 64, []⟩), (pkey [(0, 464), (0, 465), (0, 233), (2, 58), (1, 29), (0, 15)], ⟨35, [(0, .h .str), (5, .h (.int .i64)), (6, .h (.int .i64))], [], 64, []⟩)]
noncomputable def x16p1 (fu : Nat) (r0 : (x16 fu).L 1) : (x16 fu).L 0 := Fx.jn (F_fold_point_p1 fu r0.f) [r0.s] fun d => by kernel_rfl
noncomputable def x16p0 (fu : Nat) : Nat → (x16 fu).L 1 := Fx.lp (F_fold_point_p0 fu) (F_fold_point_b0 fu) (fun _ => rfl) (fun _ => rfl) (fun r0 => [(x16p1 fu r0).s]) fun _ d => by kernel_rfl
noncomputable def x16s (fu : Nat) : EI Tryz.prog x16i := (x16 fu).fin (F_fold_point fu) [(x16p0 fu fu).s] Tryz.call48 rfl rfl (by kernel_rfl) fun d d' => by kernel_rfl
/- posthouse/basic.None -/
def x17i : IF := ⟨.fn 19, [], [], _, RS.mk (.h (.prod (.int .i64) (.int .i64))) []⟩
noncomputable def x17 : Fx Tryz.prog x17i := fx Tryz.f19 19 Tryz.func19 [] false [] tags0 []
noncomputable def x17s : EI Tryz.prog x17i := x17.fin F_basic_None [] Tryz.call19 rfl rfl (by kernel_rfl) fun d d' => by kernel_rfl
/- posthouse/fold.Fold -/
def x18i : IF := ⟨.fn 30, [.h .str, .h .str], [], _, RS.mk (.tup [.own 0, .h (.prod (.int .i64) (.int .i64))]) [(0, .row .str 9)]⟩
noncomputable def x18 (fu : Nat) : Fx Tryz.prog x18i := fx Tryz.f30 30 Tryz.func30 [(x3s fu).p, x0s.p, (x15s fu).p, (x16s fu).p, x17s.p] false [] tags0 [(pkey [(0, 4072), (0, 4073), (2, 1018), (1, 509), (0, 255)], ⟨70, [(5, .ptr 32 0), (8, .own 33), (55, .own 33), (56, .h (.int .i64)), (57, .h (.int .i64))], [(32, .dat (.prod (.int .i64) (.int .i64)) 27), (33, .row .str 9)], 64, []⟩), (pkey [(0, 126), (0, 127)], ⟨70, [(5, .ptr 32 0), (6, .h .str), (8, .own 33)], [(32, .dat (.prod (.int .i64) (.int .i64)) 27), (33, .row .str 9)], 64, []⟩), (pkey [(0, 992), (0, 993), (0, 497), (2, 124), (1, 62), (0, 63)], ⟨70, [(5, .ptr 32 0), (6, .h .str), (7, .h (.int .i64)), (8, .own 33)], [(32, .dat (.prod (.int .i64) (.int .i64)) 27), (33, .row .str 9)], 64, []⟩)]
noncomputable def x18p2 (fu : Nat) : Nat → (x18 fu).L 0 := Fx.lp (F_fold_Fold_p2 fu) (F_fold_Fold_b2 fu) (fun _ => rfl) (fun _ => rfl) (fun r2 => [r2.s]) fun _ d => by kernel_rfl
noncomputable def x18p1 (fu : Nat) : (x18 fu).L 1 := Fx.jn (F_fold_Fold_p1 fu) [(x18p2 fu fu).s] fun d => by kernel_rfl
noncomputable def x18p0 (fu : Nat) : Nat → (x18 fu).L 2 := Fx.lp (F_fold_Fold_p0 fu) (F_fold_Fold_b0 fu) (fun _ => rfl) (fun _ => rfl) (fun r0 => [(x18p1 fu).s, r0.s]) fun _ d => by kernel_rfl
noncomputable def x18s (fu : Nat) : EI Tryz.prog x18i := (x18 fu).fin (F_fold_Fold fu) [(x18p0 fu fu).s] Tryz.call30 rfl rfl (by kernel_rfl) fun d d' => by kernel_rfl
/- posthouse/basic.Failed -/
def x19i : IF := ⟨.fn 15, [.h (.prod (.int .i64) (.int .i64))], [], _, RS.mk (.h .bool) []⟩
noncomputable def x19 : Fx Tryz.prog x19i := fx Tryz.f15 15 Tryz.func15 [] false [] tags0 []
noncomputable def x19s : EI Tryz.prog x19i := x19.fin F_basic_Failed [] Tryz.call15 rfl rfl (by kernel_rfl) fun d d' => by kernel_rfl
/- posthouse/header.Validate -/
def x20i : IF := ⟨.fn 14, [.h (.list (.prod .str .str))], [], _, RS.mk (.h (.prod (.int .i64) (.int .i64))) []⟩
noncomputable def x20 (fu : Nat) : Fx Tryz.prog x20i := fx Tryz.f14 14 Tryz.func14 [x0s.p, (x18s fu).p, x19s.p, x17s.p] false [] tags0 [(pkey [(0, 232), (0, 233), (2, 58), (1, 29), (0, 15)], ⟨34, [(2, .ptr 32 0), (11, .h (.list (.prod .str .str))), (12, .h (.int .i64)), (13, .h (.int .i64))], [(32, .dat (.prod (.int .i64) (.int .i64)) 27)], 64, []⟩)]
noncomputable def x20p0 (fu : Nat) : Nat → (x20 fu).L 0 := Fx.lp (F_header_Validate_p0 fu) (F_header_Validate_b0 fu) (fun _ => rfl) (fun _ => rfl) (fun r0 => [r0.s]) fun _ d => by kernel_rfl
noncomputable def x20s (fu : Nat) : EI Tryz.prog x20i := (x20 fu).fin (F_header_Validate fu) [(x20p0 fu fu).s] Tryz.call14 rfl rfl (by kernel_rfl) fun d d' => by kernel_rfl
/- posthouse/basic.Lower -/
def x21i : IF := ⟨.fn 31, [.h .str], [], _, RS.mk (.h .str) []⟩
noncomputable def x21 (fu : Nat) : Fx Tryz.prog x21i := fx Tryz.f31 31 Tryz.func31 [] false [] tags0 [(pkey [(0, 232), (0, 233), (2, 58), (1, 29), (0, 15)], ⟨30, [(3, .own 32), (8, .own 32), (9, .h (.int .i64)), (10, .h (.int .i64))], [(32, .row .byte 5)], 64, []⟩)]
noncomputable def x21p0 (fu : Nat) : Nat → (x21 fu).L 0 := Fx.lp (F_basic_Lower_p0 fu) (F_basic_Lower_b0 fu) (fun _ => rfl) (fun _ => rfl) (fun r0 => [r0.s]) fun _ d => by kernel_rfl
noncomputable def x21s (fu : Nat) : EI Tryz.prog x21i := (x21 fu).fin (F_basic_Lower fu) [(x21p0 fu fu).s] Tryz.call31 rfl rfl (by kernel_rfl) fun d d' => by kernel_rfl
/- posthouse/basic.Same -/
def x22i : IF := ⟨.fn 17, [.h .str, .h .str], [], _, RS.mk (.h .bool) []⟩
noncomputable def x22 (fu : Nat) : Fx Tryz.prog x22i := fx Tryz.f17 17 Tryz.func17 [(x21s fu).p] false [] tags0 []
noncomputable def x22s (fu : Nat) : EI Tryz.prog x22i := (x22 fu).fin (F_basic_Same fu) [] Tryz.call17 rfl rfl (by kernel_rfl) fun d d' => by kernel_rfl
/- internal/stringslite.HasSuffix -/
def x23i : IF := ⟨.fn 101, [.h .str, .h .str], [], _, RS.mk (.h .bool) []⟩
noncomputable def x23 : Fx Tryz.prog x23i := fx Tryz.f101 101 Tryz.func101 [] false [] tags0 []
noncomputable def x23s : EI Tryz.prog x23i := x23.fin F_internal_stringslite_HasSuffix [] Tryz.call101 rfl rfl (by kernel_rfl) fun d d' => by kernel_rfl
/- internal/stringslite.TrimSuffix -/
def x24i : IF := ⟨.fn 77, [.h .str, .h .str], [], _, RS.mk (.h .str) []⟩
noncomputable def x24 : Fx Tryz.prog x24i := fx Tryz.f77 77 Tryz.func77 [x23s.p] false [] tags0 []
noncomputable def x24s : EI Tryz.prog x24i := x24.fin F_internal_stringslite_TrimSuffix [] Tryz.call77 rfl rfl (by kernel_rfl) fun d d' => by kernel_rfl
/- strings.TrimSuffix -/
def x25i : IF := ⟨.fn 50, [.h .str, .h .str], [], _, RS.mk (.h .str) []⟩
noncomputable def x25 : Fx Tryz.prog x25i := fx Tryz.f50 50 Tryz.func50 [x24s.p] false [] tags0 []
noncomputable def x25s : EI Tryz.prog x25i := x25.fin F_strings_TrimSuffix [] Tryz.call50 rfl rfl (by kernel_rfl) fun d d' => by kernel_rfl
/- posthouse/canonical.squeezed -/
def x26i : IF := ⟨.fn 32, [.h .str], [], _, RS.mk (.h .str) []⟩
noncomputable def x26 (fu : Nat) : Fx Tryz.prog x26i := fx Tryz.f32 32 Tryz.func32 [x14s.p, x25s.p] false [] tags0 [(pkey [(0, 232), (0, 233), (2, 58), (1, 29), (0, 15)], ⟨37, [(0, .h .str), (3, .own 32), (8, .h (.int .i64)), (9, .h (.int .i64))], [(32, .row .byte 5)], 64, []⟩)]
noncomputable def x26p0 (fu : Nat) : Nat → (x26 fu).L 0 := Fx.lp (F_canonical_squeezed_p0 fu) (F_canonical_squeezed_b0 fu) (fun _ => rfl) (fun _ => rfl) (fun r0 => [r0.s]) fun _ d => by kernel_rfl
noncomputable def x26s (fu : Nat) : EI Tryz.prog x26i := (x26 fu).fin (F_canonical_squeezed fu) [(x26p0 fu fu).s] Tryz.call32 rfl rfl (by kernel_rfl) fun d d' => by kernel_rfl
/- posthouse/canonical.field -/
def x27i : IF := ⟨.fn 18, [.h (.prod .str .str)], [], _, RS.mk (.h .str) []⟩
noncomputable def x27 (fu : Nat) : Fx Tryz.prog x27i := fx Tryz.f18 18 Tryz.func18 [(x21s fu).p, (x26s fu).p] false [] tags0 []
noncomputable def x27s (fu : Nat) : EI Tryz.prog x27i := (x27 fu).fin (F_canonical_field fu) [] Tryz.call18 rfl rfl (by kernel_rfl) fun d d' => by kernel_rfl
/- posthouse/canonical.Fields -/
def x28i : IF := ⟨.fn 6, [.h (.list (.prod .str .str)), .h (.list .str)], [], _, RS.mk (.tup [.own 0, .h (.prod (.int .i64) (.int .i64))]) [(0, .row .byte 5)]⟩
noncomputable def x28 (fu : Nat) : Fx Tryz.prog x28i := fx Tryz.f6 6 Tryz.func6 [(x20s fu).p, x19s.p, x0s.p, x17s.p, (x22s fu).p, (x27s fu).p] false [] tags0 [(pkey [(0, 4148425), (1, 1037106), (0, 1037107), (2, 129638), (1, 64819), (1, 8102), (0, 8103), (2, 506), (1, 253), (0, 127)], ⟨64, [(0, .h (.list (.prod .str .str))), (5, .ptr 32 0), (7, .own 33), (8, .own 34), (10, .h .str), (11, .h (.int .i64)), (24, .h (.list .str)), (25, .h (.int .i64)), (26, .h (.int .i64)), (50, .h .bool)], [(32, .dat (.prod (.int .i64) (.int .i64)) 27), (33, .row .bool 4), (34, .row .byte 5)], 64, []⟩), (pkey [(0, 1037104), (0, 1037105), (0, 518553), (2, 129638), (1, 64819), (1, 8102), (0, 8103), (2, 506), (1, 253), (0, 127)], ⟨64, [(0, .h (.list (.prod .str .str))), (5, .ptr 32 0), (7, .own 33), (8, .own 34), (10, .h .str), (11, .h (.int .i64)), (24, .h (.list .str)), (25, .h (.int .i64)), (26, .h (.int .i64))], [(32, .dat (.prod (.int .i64) (.int .i64)) 27), (33, .row .bool 4), (34, .row .byte 5)], 64, []⟩), (pkey [(0, 2024), (0, 2025), (2, 506), (1, 253), (0, 127)], ⟨64, [(0, .h (.list (.prod .str .str))), (5, .ptr 32 0), (7, .own 33), (8, .own 34), (24, .h (.list .str)), (25, .h (.int .i64)), (26, .h (.int .i64))], [(32, .dat (.prod (.int .i64) (.int .i64)) 27), (33, .row .bool 4), (34, .row .byte 5)], 64, []⟩)]
noncomputable def x28p2 (fu : Nat) (r0 : (x28 fu).L 2) (r1 : (x28 fu).L 1) : (x28 fu).L 0 := Fx.jn (F_canonical_Fields_p2 fu r0.f r1.f) [r0.s, r1.s] fun d => by kernel_rfl
noncomputable def x28p1 (fu : Nat) (r0 : (x28 fu).L 2) : Nat → (x28 fu).L 1 := Fx.lp (F_canonical_Fields_p1 fu r0.f) (F_canonical_Fields_b1 fu r0.f) (fun _ => rfl) (fun _ => rfl) (fun r1 => [(x28p2 fu r0 r1).s, r0.s]) fun _ d => by kernel_rfl
noncomputable def x28p0 (fu : Nat) : Nat → (x28 fu).L 2 := Fx.lp (F_canonical_Fields_p0 fu) (F_canonical_Fields_b0 fu) (fun _ => rfl) (fun _ => rfl) (fun r0 => [(x28p1 fu r0 fu).s]) fun _ d => by kernel_rfl
noncomputable def x28s (fu : Nat) : EI Tryz.prog x28i := (x28 fu).fin (F_canonical_Fields fu) [(x28p0 fu fu).s] Tryz.call6 rfl rfl (by kernel_rfl) fun d d' => by kernel_rfl
/- bytes.splitSeq -/
def x29i : IF := ⟨.fn 55, [.h (.list .byte), .h (.list .byte), .h (.int .i64)], [], _, RS.mk (.fn 78 [.ptr 0 0, .ptr 1 0, .ptr 2 0]) [(0, .cells [.h (.list .byte)] 25), (1, .cells [.h (.list .byte)] 25), (2, .cells [.h (.int .i64)] 3)]⟩
noncomputable def x29 : Fx Tryz.prog x29i := fx Tryz.f55 55 Tryz.func55 [] false [] tags0 []
noncomputable def x29s : EI Tryz.prog x29i := x29.fin F_bytes_splitSeq [] Tryz.call55 rfl rfl (by kernel_rfl) fun d d' => by kernel_rfl
/- bytes.SplitSeq -/
def x30i : IF := ⟨.fn 36, [.h (.list .byte), .h (.list .byte)], [], _, RS.mk (.fn 78 [.ptr 0 0, .ptr 1 0, .ptr 2 0]) [(0, .cells [.h (.list .byte)] 25), (1, .cells [.h (.list .byte)] 25), (2, .cells [.h (.int .i64)] 3)]⟩
noncomputable def x30 : Fx Tryz.prog x30i := fx Tryz.f36 36 Tryz.func36 [x29s.p] false [] tags0 []
noncomputable def x30s : EI Tryz.prog x30i := x30.fin F_bytes_SplitSeq [] Tryz.call36 rfl rfl (by kernel_rfl) fun d d' => by kernel_rfl
/- unicode/utf8.decodeRuneSlow -/
def x31i : IF := ⟨.fn 102, [.h (.list .byte)], [], _, RS.mk (.tup [.h (.int .i32), .h (.int .i64)]) []⟩
noncomputable def x31 : Fx Tryz.prog x31i := fx Tryz.f102 102 Tryz.func102 [] false [] tags0 [(pkey [(0, 524286), (0, 524287)], ⟨122, [(5, .h .byte), (10, .h .byte), (11, .h .byte), (12, .h .byte)], [], 64, []⟩), (pkey [(0, 524285), (0, 262143)], ⟨122, [(5, .h .byte), (10, .h .byte), (11, .h .byte), (12, .h .byte), (103, .h .bool)], [], 64, []⟩), (pkey [(0, 131068), (0, 131069), (0, 65535)], ⟨122, [(0, .h (.list .byte)), (5, .h .byte), (8, .h (.int .i64)), (10, .h .byte), (11, .h .byte)], [], 64, []⟩), (pkey [(0, 65533), (0, 32767)], ⟨122, [(0, .h (.list .byte)), (5, .h .byte), (8, .h (.int .i64)), (10, .h .byte), (11, .h .byte), (79, .h .bool)], [], 64, []⟩), (pkey [(0, 16380), (0, 16381), (0, 8191)], ⟨122, [(0, .h (.list .byte)), (5, .h .byte), (8, .h (.int .i64)), (10, .h .byte)], [], 64, []⟩), (pkey [(0, 8189), (0, 4095)], ⟨122, [(0, .h (.list .byte)), (5, .h .byte), (8, .h (.int .i64)), (10, .h .byte), (60, .h .bool)], [], 64, []⟩)]
noncomputable def x31p5 : x31.L 0 := Fx.jn F_unicode_utf8_decodeRuneSlow_p5 [] fun d => by kernel_rfl
noncomputable def x31p4 : x31.L 1 := Fx.jn F_unicode_utf8_decodeRuneSlow_p4 [(x31p5).s] fun d => by kernel_rfl
noncomputable def x31p3 : x31.L 2 := Fx.jn F_unicode_utf8_decodeRuneSlow_p3 [(x31p4).s] fun d => by kernel_rfl
noncomputable def x31p2 : x31.L 3 := Fx.jn F_unicode_utf8_decodeRuneSlow_p2 [(x31p3).s] fun d => by kernel_rfl
noncomputable def x31p1 : x31.L 4 := Fx.jn F_unicode_utf8_decodeRuneSlow_p1 [(x31p2).s] fun d => by kernel_rfl
noncomputable def x31p0 : x31.L 5 := Fx.jn F_unicode_utf8_decodeRuneSlow_p0 [(x31p1).s] fun d => by kernel_rfl
noncomputable def x31s : EI Tryz.prog x31i := x31.fin F_unicode_utf8_decodeRuneSlow [(x31p0).s] Tryz.call102 rfl rfl (by kernel_rfl) fun d d' => by kernel_rfl
/- unicode/utf8.DecodeRune -/
def x32i : IF := ⟨.fn 79, [.h (.list .byte)], [], _, RS.mk (.tup [.h (.int .i32), .h (.int .i64)]) []⟩
noncomputable def x32 (fu : Nat) : Fx Tryz.prog x32i := fx Tryz.f79 79 Tryz.func79 [x31s.p] false [] tags0 [(pkey [(0, 104), (0, 105), (2, 26), (1, 13), (0, 7)], ⟨22, [(0, .h (.list .byte)), (6, .h (.list .byte)), (7, .h (.int .i64)), (8, .c (.int .i64 0))], [], 64, []⟩)]
noncomputable def x32p0 (fu : Nat) : Nat → (x32 fu).L 0 := Fx.lp (F_unicode_utf8_DecodeRune_p0 fu) (F_unicode_utf8_DecodeRune_b0 fu) (fun _ => rfl) (fun _ => rfl) (fun r0 => []) fun _ d => by kernel_rfl
noncomputable def x32s (fu : Nat) : EI Tryz.prog x32i := (x32 fu).fin (F_unicode_utf8_DecodeRune fu) [(x32p0 fu fu).s] Tryz.call79 rfl rfl (by kernel_rfl) fun d d' => by kernel_rfl
/- posthouse/canonical.body -/
def x33i : IF := ⟨.yld 0, [.h (.list .byte)], [(0, .loop .ready none 23 27 [(3, .ptr 1 0), (4, .ptr 2 0)] [11] 0 3), (1, .cells [.own 4] 25), (2, .cells [.h (.int .i64)] 3), (3, .dfr), (4, .row .byte 5)], _, RS.mk (.c (.bool true)) [(0, .loop .ready none 23 27 [(3, .ptr 1 0), (4, .ptr 2 0)] [11] 0 3), (1, .cells [.own 5] 25), (2, .cells [.h (.int .i64)] 3), (3, .dfr), (4, .dead), (5, .row .byte 5)]⟩
noncomputable def x33 (fu : Nat) : Fx Tryz.prog x33i := fx Tryz.f23 23 Tryz.func23 [(x26s fu).p, ⟨repeatI.e F_strings_Repeat, repeat_ok⟩] false [([0, 1, 0, 1, 1, 1], 0)] (tags1 rfl tags0) []
noncomputable def x33s (fu : Nat) : EI Tryz.prog x33i := (x33 fu).fiy (F_canonical_body_r0 fu) [] 0 rfl [0, 1, 0, 1, 1, 1] (by kernel_rfl) (by kernel_rfl) fun d d' => by kernel_rfl
/- bytes.splitSeq$1 -/
def x34i : IF := ⟨.fn 78, [.yld 0, .ptr 1 0, .ptr 2 0, .ptr 3 0], [(0, .loop .ready none 23 27 [(3, .ptr 4 0), (4, .ptr 5 0)] [11] 0 6), (1, .cells [.h (.list .byte)] 25), (2, .cells [.h (.list .byte)] 25), (3, .cells [.h (.int .i64)] 3), (4, .cells [.own 7] 25), (5, .cells [.h (.int .i64)] 3), (6, .dfr), (7, .row .byte 5)], _, RS.mk (.tup []) [(0, .loop .ready none 23 27 [(3, .ptr 4 0), (4, .ptr 5 0)] [11] 0 6), (1, .cells [.h (.list .byte)] 25), (2, .cells [.h (.list .byte)] 25), (3, .cells [.h (.int .i64)] 3), (4, .cells [.own 8] 25), (5, .cells [.h (.int .i64)] 3), (6, .dfr), (7, .dead), (8, .row .byte 5)]⟩
noncomputable def x34 (fu : Nat) : Fx Tryz.prog x34i := fx Tryz.f78 78 Tryz.func78 [(x32s fu).p, (x33s fu).p, ⟨bindexI.e F_bytes_Index, bindex_ok (by decide)⟩] false [] tags0 [(pkey [(0, 320), (0, 321), (0, 161), (2, 40), (1, 20), (0, 21), (0, 3)], ⟨63, [(0, .yld 0), (2, .ptr 2 0)], [(0, .loop .ready none 23 27 [(3, .ptr 4 0), (4, .ptr 5 0)] [11] 0 6), (1, .cells [.h (.list .byte)] 25), (2, .cells [.h (.list .byte)] 25), (3, .cells [.h (.int .i64)] 3), (4, .cells [.own 32] 25), (5, .cells [.h (.int .i64)] 3), (6, .dfr), (7, .dead), (32, .row .byte 5)], 64, []⟩), (pkey [(0, 96), (0, 97), (1, 24), (2, 12), (1, 6), (0, 7)], ⟨63, [(0, .yld 0), (1, .ptr 1 0), (2, .ptr 2 0), (3, .ptr 3 0)], [(0, .loop .ready none 23 27 [(3, .ptr 4 0), (4, .ptr 5 0)] [11] 0 6), (1, .cells [.h (.list .byte)] 25), (2, .cells [.h (.list .byte)] 25), (3, .cells [.h (.int .i64)] 3), (4, .cells [.own 32] 25), (5, .cells [.h (.int .i64)] 3), (6, .dfr), (7, .dead), (32, .row .byte 5)], 64, []⟩)]
noncomputable def x34p0 (fu : Nat) : Nat → (x34 fu).L 0 := Fx.lp (F_bytes_splitSeq_1_p0 fu) (F_bytes_splitSeq_1_b0 fu) (fun _ => rfl) (fun _ => rfl) (fun r0 => [r0.s]) fun _ d => by kernel_rfl
noncomputable def x34p1 (fu : Nat) : Nat → (x34 fu).L 1 := Fx.lp (F_bytes_splitSeq_1_p1 fu) (F_bytes_splitSeq_1_b1 fu) (fun _ => rfl) (fun _ => rfl) (fun r1 => [r1.s]) fun _ d => by kernel_rfl
noncomputable def x34s (fu : Nat) : EI Tryz.prog x34i := (x34 fu).fin (F_bytes_splitSeq_1 fu) [(x34p0 fu fu).s, (x34p1 fu fu).s] Tryz.call78 rfl rfl (by kernel_rfl) fun d d' => by kernel_rfl
/- posthouse/canonical.body -/
def x35i : IF := ⟨.fn 23, [.h (.list .byte)], [], _, RS.mk (.own 0) [(0, .row .byte 5)]⟩
noncomputable def x35 (fu : Nat) : Fx Tryz.prog x35i := fx Tryz.f23 23 Tryz.func23 [x30s.p, (x34s fu).p] false [([0, 1, 0, 1, 1, 1], 0)] (tags1 rfl tags0) []
noncomputable def x35s (fu : Nat) : EI Tryz.prog x35i := (x35 fu).fin (F_canonical_body fu) [] Tryz.call23 rfl rfl (by kernel_rfl) fun d d' => by kernel_rfl
/- posthouse/canonical.Body -/
def x36i : IF := ⟨.fn 10, [.h (.list .byte)], [], _, RS.mk (.tup [.own 0, .h (.prod (.int .i64) (.int .i64))]) [(0, .row .byte 5)]⟩
noncomputable def x36 (fu : Nat) : Fx Tryz.prog x36i := fx Tryz.f10 10 Tryz.func10 [x0s.p, (x35s fu).p, x17s.p] false [] tags0 []
noncomputable def x36s (fu : Nat) : EI Tryz.prog x36i := (x36 fu).fin (F_canonical_Body fu) [] Tryz.call10 rfl rfl (by kernel_rfl) fun d d' => by kernel_rfl
/- posthouse/message.write -/
def x37i : IF := ⟨.fn 62, [.h (.prod (.list (.prod .str .str)) (.list .byte))], [], _, RS.mk (.own 0) [(0, .row .byte 5)]⟩
noncomputable def x37 (fu : Nat) : Fx Tryz.prog x37i := fx Tryz.f62 62 Tryz.func62 [(x18s fu).p] false [] tags0 [(pkey [(0, 119608), (0, 119609), (2, 29902), (1, 14951), (1, 934), (0, 935), (2, 58), (1, 29), (0, 15)], ⟨44, [(1, .ptr 32 0), (3, .own 34), (11, .h (.list (.prod .str .str))), (12, .h (.int .i64)), (13, .h (.int .i64)), (25, .own 33), (26, .h (.int .i64)), (27, .h (.int .i64))], [(32, .dat (.prod (.list (.prod .str .str)) (.list .byte)) 42), (33, .row .str 9), (34, .row .byte 5)], 64, []⟩), (pkey [(0, 232), (0, 233), (2, 58), (1, 29), (0, 15)], ⟨44, [(1, .ptr 32 0), (3, .own 33), (11, .h (.list (.prod .str .str))), (12, .h (.int .i64)), (13, .h (.int .i64))], [(32, .dat (.prod (.list (.prod .str .str)) (.list .byte)) 42), (33, .row .byte 5)], 64, []⟩)]
noncomputable def x37p1 (fu : Nat) (r0 : (x37 fu).L 1) : Nat → (x37 fu).L 0 := Fx.lp (F_message_write_p1 fu r0.f) (F_message_write_b1 fu r0.f) (fun _ => rfl) (fun _ => rfl) (fun r1 => [r1.s, r0.s]) fun _ d => by kernel_rfl
noncomputable def x37p0 (fu : Nat) : Nat → (x37 fu).L 1 := Fx.lp (F_message_write_p0 fu) (F_message_write_b0 fu) (fun _ => rfl) (fun _ => rfl) (fun r0 => [(x37p1 fu r0 fu).s]) fun _ d => by kernel_rfl
noncomputable def x37s (fu : Nat) : EI Tryz.prog x37i := (x37 fu).fin (F_message_write fu) [(x37p0 fu fu).s] Tryz.call62 rfl rfl (by kernel_rfl) fun d d' => by kernel_rfl
/- posthouse/basic.Body -/
def x38i : IF := ⟨.fn 86, [.h (.list .byte)], [], _, RS.mk (.h (.int .i64)) []⟩
noncomputable def x38 (fu : Nat) : Fx Tryz.prog x38i := fx Tryz.f86 86 Tryz.func86 [] false [] tags0 [(pkey [(0, 14924), (0, 14925), (0, 7463), (1, 466), (0, 467), (2, 58), (1, 29), (0, 15)], ⟨45, [(0, .h (.list .byte)), (3, .h (.int .i64)), (4, .h (.int .i64)), (5, .h .byte)], [], 64, []⟩), (pkey [(0, 7461), (0, 3731), (1, 466), (0, 467), (2, 58), (1, 29), (0, 15)], ⟨45, [(0, .h (.list .byte)), (3, .h (.int .i64)), (4, .h (.int .i64)), (5, .h .byte), (32, .h .bool)], [], 64, []⟩), (pkey [(0, 464), (0, 465), (0, 233), (2, 58), (1, 29), (0, 15)], ⟨45, [(0, .h (.list .byte)), (3, .h (.int .i64)), (4, .h (.int .i64))], [], 64, []⟩)]
noncomputable def x38p2 (fu : Nat) (r0 : (x38 fu).L 2) : (x38 fu).L 0 := Fx.jn (F_basic_Body_p2 fu r0.f) [r0.s] fun d => by kernel_rfl
noncomputable def x38p1 (fu : Nat) (r0 : (x38 fu).L 2) : (x38 fu).L 1 := Fx.jn (F_basic_Body_p1 fu r0.f) [r0.s, (x38p2 fu r0).s] fun d => by kernel_rfl
noncomputable def x38p0 (fu : Nat) : Nat → (x38 fu).L 2 := Fx.lp (F_basic_Body_p0 fu) (F_basic_Body_b0 fu) (fun _ => rfl) (fun _ => rfl) (fun r0 => [(x38p1 fu r0).s]) fun _ d => by kernel_rfl
noncomputable def x38s (fu : Nat) : EI Tryz.prog x38i := (x38 fu).fin (F_basic_Body fu) [(x38p0 fu fu).s] Tryz.call86 rfl rfl (by kernel_rfl) fun d d' => by kernel_rfl
/- posthouse/message.body -/
def x39i : IF := ⟨.fn 63, [.h (.list .byte)], [], _, RS.mk (.h (.prod (.int .i64) (.int .i64))) []⟩
noncomputable def x39 (fu : Nat) : Fx Tryz.prog x39i := fx Tryz.f63 63 Tryz.func63 [(x38s fu).p, x0s.p, x17s.p] false [] tags0 []
noncomputable def x39s (fu : Nat) : EI Tryz.prog x39i := (x39 fu).fin (F_message_body fu) [] Tryz.call63 rfl rfl (by kernel_rfl) fun d d' => by kernel_rfl
/- posthouse/message.Validate -/
def x40i : IF := ⟨.fn 39, [.h (.prod (.list (.prod .str .str)) (.list .byte))], [], _, RS.mk (.h (.prod (.int .i64) (.int .i64))) []⟩
noncomputable def x40 (fu : Nat) : Fx Tryz.prog x40i := fx Tryz.f39 39 Tryz.func39 [(x20s fu).p, x19s.p, (x37s fu).p, x0s.p, (x39s fu).p] false [] tags0 []
noncomputable def x40s (fu : Nat) : EI Tryz.prog x40i := (x40 fu).fin (F_message_Validate fu) [] Tryz.call39 rfl rfl (by kernel_rfl) fun d d' => by kernel_rfl
/- posthouse/parts.Type -/
def x41i : IF := ⟨.fn 89, [.h (.list (.prod .str .str))], [], _, RS.mk (.tup [.agg [.h .str, .h .str, .c .nilS], .h (.int .i64), .h .bool]) []⟩
noncomputable def x41 (fu : Nat) : Fx Tryz.prog x41i := fx Tryz.f89 89 Tryz.func89 [(x22s fu).p] false [] tags0 [(pkey [(0, 935), (2, 58), (1, 29), (0, 15)], ⟨42, [(0, .h (.list (.prod .str .str))), (2, .ptr 32 0), (5, .h (.int .i64)), (10, .h (.list (.prod .str .str))), (11, .h (.int .i64)), (12, .h (.int .i64))], [(32, .cells [.h .str, .h .str, .c .nilS] 138)], 64, []⟩), (pkey [(0, 232), (0, 233), (2, 58), (1, 29), (0, 15)], ⟨42, [(0, .h (.list (.prod .str .str))), (2, .ptr 32 0), (5, .h (.int .i64)), (10, .h (.list (.prod .str .str))), (11, .h (.int .i64)), (12, .h (.int .i64))], [(32, .cells [.h .str, .h .str, .c .nilS] 138)], 64, []⟩)]
noncomputable def x41p1 (fu : Nat) (r0 : (x41 fu).L 1) : (x41 fu).L 0 := Fx.jn (F_parts_Type_p1 fu r0.f) [r0.s] fun d => by kernel_rfl
noncomputable def x41p0 (fu : Nat) : Nat → (x41 fu).L 1 := Fx.lp (F_parts_Type_p0 fu) (F_parts_Type_b0 fu) (fun _ => rfl) (fun _ => rfl) (fun r0 => [(x41p1 fu r0).s]) fun _ d => by kernel_rfl
noncomputable def x41s (fu : Nat) : EI Tryz.prog x41i := (x41 fu).fin (F_parts_Type fu) [(x41p0 fu fu).s] Tryz.call89 rfl rfl (by kernel_rfl) fun d d' => by kernel_rfl
/- posthouse/parts.boundary -/
def x42i : IF := ⟨.fn 87, [.h (.list (.prod .str .str))], [], _, RS.mk (.tup [.h .str, .h .bool]) []⟩
noncomputable def x42 (fu : Nat) : Fx Tryz.prog x42i := fx Tryz.f87 87 Tryz.func87 [(x41s fu).p, (x22s fu).p] false [] tags0 [(pkey [(0, 30), (0, 31)], ⟨52, [(4, .ptr 32 0)], [(32, .cells [.h .str, .h .str, .c .nilS] 138)], 64, []⟩), (pkey [(0, 29), (0, 15)], ⟨52, [(4, .ptr 32 0), (24, .h .bool)], [(32, .cells [.h .str, .h .str, .c .nilS] 138)], 64, []⟩)]
noncomputable def x42p1 (fu : Nat) : (x42 fu).L 0 := Fx.jn (F_parts_boundary_p1 fu) [] fun d => by kernel_rfl
noncomputable def x42p0 (fu : Nat) : (x42 fu).L 1 := Fx.jn (F_parts_boundary_p0 fu) [(x42p1 fu).s] fun d => by kernel_rfl
noncomputable def x42s (fu : Nat) : EI Tryz.prog x42i := (x42 fu).fin (F_parts_boundary fu) [(x42p0 fu).s] Tryz.call87 rfl rfl (by kernel_rfl) fun d d' => by kernel_rfl
/- posthouse/parts.lines -/
def x43i : IF := ⟨.fn 113, [.h (.list .byte)], [], _, RS.mk (.fn 137 [.ptr 0 0]) [(0, .cells [.h (.list .byte)] 25)]⟩
noncomputable def x43 : Fx Tryz.prog x43i := fx Tryz.f113 113 Tryz.func113 [] false [] tags0 []
noncomputable def x43s : EI Tryz.prog x43i := x43.fin F_parts_lines [] Tryz.call113 rfl rfl (by kernel_rfl) fun d d' => by kernel_rfl
/- strings.trimRightByte -/
def x44i : IF := ⟨.fn 150, [.h .str, .h .byte], [], _, RS.mk (.h .str) []⟩
noncomputable def x44 (fu : Nat) : Fx Tryz.prog x44i := fx Tryz.f150 150 Tryz.func150 [] false [] tags0 [(pkey [(0, 96), (0, 97), (0, 49), (2, 12), (1, 6), (0, 7)], ⟨23, [(0, .h .str), (1, .h .byte)], [], 64, []⟩)]
noncomputable def x44p0 (fu : Nat) : Nat → (x44 fu).L 0 := Fx.lp (F_strings_trimRightByte_p0 fu) (F_strings_trimRightByte_b0 fu) (fun _ => rfl) (fun _ => rfl) (fun r0 => [r0.s]) fun _ d => by kernel_rfl
noncomputable def x44s (fu : Nat) : EI Tryz.prog x44i := (x44 fu).fin (F_strings_trimRightByte fu) [(x44p0 fu fu).s] Tryz.call150 rfl rfl (by kernel_rfl) fun d d' => by kernel_rfl
/- strings.trimRightASCII -/
def x45i : IF := ⟨.fn 153, [.h .str, .el 0 1], [(0, .row .bool 214)], _, RS.mk (.h .str) [(0, .row .bool 214)]⟩
noncomputable def x45 (fu : Nat) : Fx Tryz.prog x45i := fx Tryz.f153 153 Tryz.func153 [x10s.p] false [] tags0 [(pkey [(0, 96), (0, 97), (0, 49), (2, 12), (1, 6), (0, 7)], ⟨22, [(0, .h .str), (1, .el 0 1)], [(0, .row .bool 214)], 64, []⟩)]
noncomputable def x45p0 (fu : Nat) : Nat → (x45 fu).L 0 := Fx.lp (F_strings_trimRightASCII_p0 fu) (F_strings_trimRightASCII_b0 fu) (fun _ => rfl) (fun _ => rfl) (fun r0 => [r0.s]) fun _ d => by kernel_rfl
noncomputable def x45s (fu : Nat) : EI Tryz.prog x45i := (x45 fu).fin (F_strings_trimRightASCII fu) [(x45p0 fu fu).s] Tryz.call153 rfl rfl (by kernel_rfl) fun d d' => by kernel_rfl
/- unicode/utf8.RuneStart -/
def x46i : IF := ⟨.fn 206, [.h .byte], [], _, RS.mk (.h .bool) []⟩
noncomputable def x46 : Fx Tryz.prog x46i := fx Tryz.f206 206 Tryz.func206 [] false [] tags0 []
noncomputable def x46s : EI Tryz.prog x46i := x46.fin F_unicode_utf8_RuneStart [] Tryz.call206 rfl rfl (by kernel_rfl) fun d d' => by kernel_rfl
/- unicode/utf8.decodeRuneInStringSlow -/
def x47i : IF := ⟨.fn 205, [.h .str], [], _, RS.mk (.tup [.h (.int .i32), .h (.int .i64)]) []⟩
noncomputable def x47 : Fx Tryz.prog x47i := fx Tryz.f205 205 Tryz.func205 [] false [] tags0 [(pkey [(0, 524286), (0, 524287)], ⟨117, [(5, .h .byte), (10, .h .byte), (11, .h .byte), (12, .h .byte)], [], 64, []⟩), (pkey [(0, 524285), (0, 262143)], ⟨117, [(5, .h .byte), (10, .h .byte), (11, .h .byte), (12, .h .byte), (98, .h .bool)], [], 64, []⟩), (pkey [(0, 131068), (0, 131069), (0, 65535)], ⟨117, [(0, .h .str), (5, .h .byte), (8, .h (.int .i64)), (10, .h .byte), (11, .h .byte)], [], 64, []⟩), (pkey [(0, 65533), (0, 32767)], ⟨117, [(0, .h .str), (5, .h .byte), (8, .h (.int .i64)), (10, .h .byte), (11, .h .byte), (75, .h .bool)], [], 64, []⟩), (pkey [(0, 16380), (0, 16381), (0, 8191)], ⟨117, [(0, .h .str), (5, .h .byte), (8, .h (.int .i64)), (10, .h .byte)], [], 64, []⟩), (pkey [(0, 8189), (0, 4095)], ⟨117, [(0, .h .str), (5, .h .byte), (8, .h (.int .i64)), (10, .h .byte), (57, .h .bool)], [], 64, []⟩)]
noncomputable def x47p5 : x47.L 0 := Fx.jn F_unicode_utf8_decodeRuneInStringSlow_p5 [] fun d => by kernel_rfl
noncomputable def x47p4 : x47.L 1 := Fx.jn F_unicode_utf8_decodeRuneInStringSlow_p4 [(x47p5).s] fun d => by kernel_rfl
noncomputable def x47p3 : x47.L 2 := Fx.jn F_unicode_utf8_decodeRuneInStringSlow_p3 [(x47p4).s] fun d => by kernel_rfl
noncomputable def x47p2 : x47.L 3 := Fx.jn F_unicode_utf8_decodeRuneInStringSlow_p2 [(x47p3).s] fun d => by kernel_rfl
noncomputable def x47p1 : x47.L 4 := Fx.jn F_unicode_utf8_decodeRuneInStringSlow_p1 [(x47p2).s] fun d => by kernel_rfl
noncomputable def x47p0 : x47.L 5 := Fx.jn F_unicode_utf8_decodeRuneInStringSlow_p0 [(x47p1).s] fun d => by kernel_rfl
noncomputable def x47s : EI Tryz.prog x47i := x47.fin F_unicode_utf8_decodeRuneInStringSlow [(x47p0).s] Tryz.call205 rfl rfl (by kernel_rfl) fun d d' => by kernel_rfl
/- unicode/utf8.DecodeRuneInString -/
def x48i : IF := ⟨.fn 181, [.h .str], [], _, RS.mk (.tup [.h (.int .i32), .h (.int .i64)]) []⟩
noncomputable def x48 : Fx Tryz.prog x48i := fx Tryz.f181 181 Tryz.func181 [x47s.p] false [] tags0 []
noncomputable def x48s : EI Tryz.prog x48i := x48.fin F_unicode_utf8_DecodeRuneInString [] Tryz.call181 rfl rfl (by kernel_rfl) fun d d' => by kernel_rfl
/- unicode/utf8.DecodeLastRuneInString -/
def x49i : IF := ⟨.fn 183, [.h .str], [], _, RS.mk (.tup [.h (.int .i32), .h (.int .i64)]) []⟩
noncomputable def x49 (fu : Nat) : Fx Tryz.prog x49i := fx Tryz.f183 183 Tryz.func183 [x46s.p, x48s.p] false [] tags0 [(pkey [(0, 2046), (0, 2047)], ⟨51, [(0, .h .str), (4, .h (.int .i64)), (5, .h (.int .i64))], [], 64, []⟩), (pkey [(0, 2044), (0, 2045), (0, 1023)], ⟨51, [(0, .h .str), (4, .h (.int .i64)), (5, .h (.int .i64))], [], 64, []⟩), (pkey [(0, 16336), (0, 16337), (0, 8169), (2, 2042), (1, 1021), (0, 511)], ⟨51, [(0, .h .str), (4, .h (.int .i64)), (5, .h (.int .i64)), (6, .h (.int .i64))], [], 64, []⟩)]
noncomputable def x49p2 (fu : Nat) : (x49 fu).L 0 := Fx.jn (F_unicode_utf8_DecodeLastRuneInString_p2 fu) [] fun d => by kernel_rfl
noncomputable def x49p1 (fu : Nat) : (x49 fu).L 1 := Fx.jn (F_unicode_utf8_DecodeLastRuneInString_p1 fu) [(x49p2 fu).s] fun d => by kernel_rfl
noncomputable def x49p0 (fu : Nat) : Nat → (x49 fu).L 2 := Fx.lp (F_unicode_utf8_DecodeLastRuneInString_p0 fu) (F_unicode_utf8_DecodeLastRuneInString_b0 fu) (fun _ => rfl) (fun _ => rfl) (fun r0 => [(x49p1 fu).s, r0.s]) fun _ d => by kernel_rfl
noncomputable def x49s (fu : Nat) : EI Tryz.prog x49i := (x49 fu).fin (F_unicode_utf8_DecodeLastRuneInString fu) [(x49p0 fu fu).s] Tryz.call183 rfl rfl (by kernel_rfl) fun d d' => by kernel_rfl
/- strings.ContainsRune -/
def x50i : IF := ⟨.fn 182, [.h .str, .h (.int .i32)], [], _, RS.mk (.h .bool) []⟩
noncomputable def x50 (fu : Nat) : Fx Tryz.prog x50i := fx Tryz.f182 182 Tryz.func182 [(x9s fu).p] false [] tags0 []
noncomputable def x50s (fu : Nat) : EI Tryz.prog x50i := (x50 fu).fin (F_strings_ContainsRune fu) [] Tryz.call182 rfl rfl (by kernel_rfl) fun d d' => by kernel_rfl
/- strings.trimRightUnicode -/
def x51i : IF := ⟨.fn 155, [.h .str, .h .str], [], _, RS.mk (.h .str) []⟩
noncomputable def x51 (fu : Nat) : Fx Tryz.prog x51i := fx Tryz.f155 155 Tryz.func155 [(x49s fu).p, (x50s fu).p] false [] tags0 [(pkey [(0, 96), (0, 97), (0, 49), (2, 12), (1, 6), (0, 7)], ⟨34, [(0, .h .str), (1, .h .str)], [], 64, []⟩)]
noncomputable def x51p0 (fu : Nat) : Nat → (x51 fu).L 0 := Fx.lp (F_strings_trimRightUnicode_p0 fu) (F_strings_trimRightUnicode_b0 fu) (fun _ => rfl) (fun _ => rfl) (fun r0 => [r0.s]) fun _ d => by kernel_rfl
noncomputable def x51s (fu : Nat) : EI Tryz.prog x51i := (x51 fu).fin (F_strings_trimRightUnicode fu) [(x51p0 fu fu).s] Tryz.call155 rfl rfl (by kernel_rfl) fun d d' => by kernel_rfl
/- strings.TrimRight -/
def x52i : IF := ⟨.fn 138, [.h .str, .h .str], [], _, RS.mk (.h .str) []⟩
noncomputable def x52 (fu : Nat) : Fx Tryz.prog x52i := fx Tryz.f138 138 Tryz.func138 [(x44s fu).p, (x5s fu).p, (x45s fu).p, (x51s fu).p] false [] tags0 [(pkey [(0, 60), (0, 61), (0, 31)], ⟨37, [(0, .h .str), (1, .h .str)], [], 64, []⟩), (pkey [(0, 29), (0, 15)], ⟨37, [(0, .h .str), (1, .h .str), (21, .h .bool)], [], 64, []⟩), (pkey [(0, 28), (0, 29), (0, 15)], ⟨37, [(0, .h .str), (1, .h .str)], [], 64, []⟩), (pkey [(0, 13), (0, 7)], ⟨37, [(0, .h .str), (1, .h .str), (12, .h .bool)], [], 64, []⟩)]
noncomputable def x52p3 (fu : Nat) : (x52 fu).L 0 := Fx.jn (F_strings_TrimRight_p3 fu) [] fun d => by kernel_rfl
noncomputable def x52p2 (fu : Nat) : (x52 fu).L 1 := Fx.jn (F_strings_TrimRight_p2 fu) [(x52p3 fu).s] fun d => by kernel_rfl
noncomputable def x52p1 (fu : Nat) : (x52 fu).L 2 := Fx.jn (F_strings_TrimRight_p1 fu) [(x52p2 fu).s] fun d => by kernel_rfl
noncomputable def x52p0 (fu : Nat) : (x52 fu).L 3 := Fx.jn (F_strings_TrimRight_p0 fu) [(x52p1 fu).s] fun d => by kernel_rfl
noncomputable def x52s (fu : Nat) : EI Tryz.prog x52i := (x52 fu).fin (F_strings_TrimRight fu) [(x52p0 fu).s] Tryz.call138 rfl rfl (by kernel_rfl) fun d d' => by kernel_rfl
/- posthouse/parts.kind -/
def x53i : IF := ⟨.fn 114, [.h .str, .h .str], [], _, RS.mk (.h (.int .i64)) []⟩
noncomputable def x53 (fu : Nat) : Fx Tryz.prog x53i := fx Tryz.f114 114 Tryz.func114 [(x52s fu).p] false [] tags0 []
noncomputable def x53s (fu : Nat) : EI Tryz.prog x53i := (x53 fu).fin (F_parts_kind fu) [] Tryz.call114 rfl rfl (by kernel_rfl) fun d d' => by kernel_rfl
/- posthouse/parts.contained -/
def x54i : IF := ⟨.yld 0, [.h (.int .i64), .h .str], [(0, .loop .ready none 88 51 [(2, .ptr 1 0), (3, .ptr 2 0), (4, .ptr 3 0), (5, .ptr 4 0), (6, .ptr 5 0)] [12, 13] 1 6), (1, .cells [.h (.list .byte)] 25), (2, .cells [.h .str] 9), (3, .cells [.own 7] 108), (4, .cells [.own 8] 108), (5, .cells [.h (.int .i64)] 3), (6, .dfr), (7, .row (.list .byte) 25), (8, .row (.list .byte) 25)], _, .two (RS.mk (.c (.bool true)) [(0, .loop .ready none 88 51 [(2, .ptr 1 0), (3, .ptr 2 0), (4, .ptr 3 0), (5, .ptr 4 0), (6, .ptr 5 0)] [12, 13] 1 6), (1, .cells [.h (.list .byte)] 25), (2, .cells [.h .str] 9), (3, .cells [.own 9] 108), (4, .cells [.own 10] 108), (5, .cells [.h (.int .i64)] 3), (6, .dfr), (7, .dead), (8, .dead), (9, .row (.list .byte) 25), (10, .row (.list .byte) 25)]) (RS.mk (.c (.bool false)) [(0, .loop .done (some .ret) 88 51 [(2, .ptr 1 0), (3, .ptr 2 0), (4, .ptr 3 0), (5, .ptr 4 0), (6, .ptr 5 0)] [12, 13] 1 6), (1, .cells [.h (.list .byte)] 25), (2, .cells [.h .str] 9), (3, .cells [.own 9] 108), (4, .cells [.own 9] 108), (5, .cells [.h (.int .i64)] 3), (6, .dfr), (7, .dead), (8, .dead), (9, .row (.list .byte) 25)])⟩
noncomputable def x54 (fu : Nat) : Fx Tryz.prog x54i := fx Tryz.f88 88 Tryz.func88 [(x53s fu).p] false [([0, 1, 0, 1, 1, 1], 1)] (tags1 rfl tags0) []
noncomputable def x54s (fu : Nat) : EI Tryz.prog x54i := (x54 fu).fiy (F_parts_contained_r1 fu) [] 0 rfl [0, 1, 0, 1, 1, 1] (by kernel_rfl) (by kernel_rfl) fun d d' => by kernel_rfl
/- posthouse/parts.lines$1 -/
def x55i : IF := ⟨.fn 137, [.yld 0, .ptr 1 0], [(0, .loop .ready none 88 51 [(2, .ptr 2 0), (3, .ptr 3 0), (4, .ptr 4 0), (5, .ptr 5 0), (6, .ptr 6 0)] [12, 13] 1 7), (1, .cells [.h (.list .byte)] 25), (2, .cells [.h (.list .byte)] 25), (3, .cells [.h .str] 9), (4, .cells [.own 8] 108), (5, .cells [.own 9] 108), (6, .cells [.h (.int .i64)] 3), (7, .dfr), (8, .row (.list .byte) 25), (9, .row (.list .byte) 25)], _, .two (RS.mk (.tup []) [(0, .loop .done (some .ret) 88 51 [(2, .ptr 2 0), (3, .ptr 3 0), (4, .ptr 4 0), (5, .ptr 5 0), (6, .ptr 6 0)] [12, 13] 1 7), (1, .cells [.h (.list .byte)] 25), (2, .cells [.h (.list .byte)] 25), (3, .cells [.h .str] 9), (4, .cells [.own 10] 108), (5, .cells [.own 10] 108), (6, .cells [.h (.int .i64)] 3), (7, .dfr), (8, .dead), (9, .dead), (10, .row (.list .byte) 25)]) (RS.mk (.tup []) [(0, .loop .ready none 88 51 [(2, .ptr 2 0), (3, .ptr 3 0), (4, .ptr 4 0), (5, .ptr 5 0), (6, .ptr 6 0)] [12, 13] 1 7), (1, .cells [.h (.list .byte)] 25), (2, .cells [.h (.list .byte)] 25), (3, .cells [.h .str] 9), (4, .cells [.own 10] 108), (5, .cells [.own 11] 108), (6, .cells [.h (.int .i64)] 3), (7, .dfr), (8, .dead), (9, .dead), (10, .row (.list .byte) 25), (11, .row (.list .byte) 25)])⟩
noncomputable def x55 (fu : Nat) : Fx Tryz.prog x55i := fx Tryz.f137 137 Tryz.func137 [⟨bindexI.e F_bytes_Index, bindex_ok (by decide)⟩, (x54s fu).p] false [] tags0 [(pkey [(0, 48), (0, 49), (0, 25), (2, 6), (1, 3)], ⟨39, [(0, .yld 0), (1, .ptr 1 0), (3, .h (.int .i64))], [(0, .loop .ready none 88 51 [(2, .ptr 2 0), (3, .ptr 3 0), (4, .ptr 4 0), (5, .ptr 5 0), (6, .ptr 6 0)] [12, 13] 1 7), (1, .cells [.h (.list .byte)] 25), (2, .cells [.h (.list .byte)] 25), (3, .cells [.h .str] 9), (4, .cells [.own 32] 108), (5, .cells [.own 33] 108), (6, .cells [.h (.int .i64)] 3), (7, .dfr), (8, .dead), (9, .dead), (32, .row (.list .byte) 25), (33, .row (.list .byte) 25)], 64, []⟩)]
noncomputable def x55p0 (fu : Nat) : Nat → (x55 fu).L 0 := Fx.lp (F_parts_lines_1_p0 fu) (F_parts_lines_1_b0 fu) (fun _ => rfl) (fun _ => rfl) (fun r0 => [r0.s]) fun _ d => by kernel_rfl
noncomputable def x55s (fu : Nat) : EI Tryz.prog x55i := (x55 fu).fin (F_parts_lines_1 fu) [(x55p0 fu fu).s] Tryz.call137 rfl rfl (by kernel_rfl) fun d d' => by kernel_rfl
/- posthouse/parts.contained -/
def x56i : IF := ⟨.fn 88, [.h (.list .byte), .h .str], [], _, RS.mk (.own 0) [(0, .row (.list .byte) 25)]⟩
noncomputable def x56 (fu : Nat) : Fx Tryz.prog x56i := fx Tryz.f88 88 Tryz.func88 [x43s.p, (x55s fu).p] false [([0, 1, 0, 1, 1, 1], 1)] (tags1 rfl tags0) []
noncomputable def x56s (fu : Nat) : EI Tryz.prog x56i := (x56 fu).fin (F_parts_contained fu) [] Tryz.call88 rfl rfl (by kernel_rfl) fun d d' => by kernel_rfl
/- posthouse/parts.inner -/
def x57i : IF := ⟨.fn 66, [.h (.list (.prod .str .str)), .h (.list .byte), .h (.int .i64)], [], _, RS.mk (.own 0) [(0, .row (.list .byte) 25)]⟩
noncomputable def x57 (fu : Nat) : Fx Tryz.prog x57i := fx Tryz.f66 66 Tryz.func66 [(x42s fu).p, (x56s fu).p] false [] tags0 []
noncomputable def x57s (fu : Nat) : EI Tryz.prog x57i := (x57 fu).fin (F_parts_inner fu) [] Tryz.call66 rfl rfl (by kernel_rfl) fun d d' => by kernel_rfl
/- posthouse/parts.bare$1 -/
def x58i : IF := ⟨.fn 91, [.h (.prod .str .str)], [], _, RS.mk (.h .bool) []⟩
noncomputable def x58 (fu : Nat) : Fx Tryz.prog x58i := fx Tryz.f91 91 Tryz.func91 [(x22s fu).p] false [] tags0 []
noncomputable def x58s (fu : Nat) : EI Tryz.prog x58i := (x58 fu).fin (F_parts_bare_1 fu) [] Tryz.call91 rfl rfl (by kernel_rfl) fun d d' => by kernel_rfl
/- slices.IndexFunc[[]posthouse/api.Param,posthouse/api.Param] -/
def x59i : IF := ⟨.fn 116, [.h (.list (.prod .str .str)), .fn 91 []], [], _, RS.mk (.h (.int .i64)) []⟩
noncomputable def x59 (fu : Nat) : Fx Tryz.prog x59i := fx Tryz.f116 116 Tryz.func116 [(x58s fu).p] false [] tags0 [(pkey [(0, 104), (0, 105), (2, 26), (1, 13), (0, 7)], ⟨19, [(0, .h (.list (.prod .str .str))), (1, .fn 91 []), (7, .h (.int .i64)), (8, .h (.int .i64))], [], 64, []⟩)]
noncomputable def x59p0 (fu : Nat) : Nat → (x59 fu).L 0 := Fx.lp (F_slices_IndexFunc_api_Param_api_Param_p0 fu) (F_slices_IndexFunc_api_Param_api_Param_b0 fu) (fun _ => rfl) (fun _ => rfl) (fun r0 => [r0.s]) fun _ d => by kernel_rfl
noncomputable def x59s (fu : Nat) : EI Tryz.prog x59i := (x59 fu).fin (F_slices_IndexFunc_api_Param_api_Param fu) [(x59p0 fu fu).s] Tryz.call116 rfl rfl (by kernel_rfl) fun d d' => by kernel_rfl
/- slices.DeleteFunc[[]posthouse/api.Param,posthouse/api.Param] -/
def x60i : IF := ⟨.fn 90, [.h (.list (.prod .str .str)), .fn 91 []], [], _, RS.mk (.h (.list (.prod .str .str))) []⟩
noncomputable def x60 (fu : Nat) : Fx Tryz.prog x60i := fx Tryz.f90 90 Tryz.func90 [(x59s fu).p, (x58s fu).p] true [] tags0 [(pkey [(0, 976), (0, 977), (0, 489), (2, 122), (1, 61), (0, 31)], ⟨42, [(0, .h (.list (.prod .str .str))), (1, .fn 91 []), (5, .h (.int .i64)), (6, .h (.int .i64))], [], 64, []⟩)]
noncomputable def x60p0 (fu : Nat) : Nat → (x60 fu).L 0 := Fx.lp (F_slices_DeleteFunc_api_Param_api_Param_p0 fu) (F_slices_DeleteFunc_api_Param_api_Param_b0 fu) (fun _ => rfl) (fun _ => rfl) (fun r0 => [r0.s]) fun _ d => by kernel_rfl
noncomputable def x60s (fu : Nat) : EI Tryz.prog x60i := (x60 fu).fin (F_slices_DeleteFunc_api_Param_api_Param fu) [(x60p0 fu fu).s] Tryz.call90 rfl rfl (by kernel_rfl) fun d d' => by kernel_rfl
/- (*posthouse/parts.splitter).part -/
def x61i : IF := ⟨.fn 40, [.ptr 0 0, .h (.list (.prod .str .str)), .h (.list .byte), .h (.int .i64)], [(0, .dat (.prod (.int .i64) (.prod (.int .i64) (.int .i64))) 74)], _, RS.mk (.tup [.h (.tree (.prod (.list (.prod .str .str)) (.list .byte))), .h .bool]) [(0, .dat (.prod (.int .i64) (.prod (.int .i64) (.int .i64))) 74)]⟩
noncomputable def x61 (fu : Nat) : Fx Tryz.prog x61i := fx Tryz.f40 40 Tryz.func40 [⟨clone64I.e F_slices_Clone, clone64_ok⟩, ⟨clone65I.e F_slices_Clone, clone65_ok⟩, (x57s fu).p] false [] tags0 []
noncomputable def x61s (fu : Nat) : EI Tryz.prog x61i := (x61 fu).fin (F_parts_splitter_part fu) [] Tryz.call40 rfl rfl (by kernel_rfl) fun d d' => by kernel_rfl
/- posthouse/parts.each -/
def x62i : IF := ⟨.fn 43, [.h (.tree (.prod (.list (.prod .str .str)) (.list .byte)))], [], _, RS.mk (.fn 70 [.ptr 0 0]) [(0, .dat (.tree (.prod (.list (.prod .str .str)) (.list .byte))) 54)]⟩
noncomputable def x62 : Fx Tryz.prog x62i := fx Tryz.f43 43 Tryz.func43 [] false [] tags0 []
noncomputable def x62s : EI Tryz.prog x62i := x62.fin F_parts_each [] Tryz.call43 rfl rfl (by kernel_rfl) fun d d' => by kernel_rfl
/- posthouse/parts.Validate -/
def x63i : IF := ⟨.yld 0, [.h (.int .i64), .agg [.h (.list (.prod .str .str)), .h (.list .byte), .h (.list (.tree (.prod (.list (.prod .str .str)) (.list .byte)))), .h (.int .i64)]], [(0, .loop .ready none 41 36 [(2, .ptr 1 0), (3, .ptr 2 0)] [11, 12] 2 3), (1, .dat (.prod (.int .i64) (.int .i64)) 27), (2, .cells [.h .bool] 4), (3, .dfr)], _, .two (RS.mk (.c (.bool false)) [(0, .loop .done (some .ret) 41 36 [(2, .ptr 1 0), (3, .ptr 2 0)] [11, 12] 2 3), (1, .dat (.prod (.int .i64) (.int .i64)) 27), (2, .cells [.h .bool] 4), (3, .dfr)]) (RS.mk (.c (.bool true)) [(0, .loop .ready none 41 36 [(2, .ptr 1 0), (3, .ptr 2 0)] [11, 12] 2 3), (1, .dat (.prod (.int .i64) (.int .i64)) 27), (2, .cells [.h .bool] 4), (3, .dfr)])⟩
noncomputable def x63 : Fx Tryz.prog x63i := fx Tryz.f41 41 Tryz.func41 [x0s.p] false [([0, 1, 0, 1, 1], 2)] (tags1 rfl tags0) []
noncomputable def x63s : EI Tryz.prog x63i := x63.fiy F_parts_Validate_r2 [] 0 rfl [0, 1, 0, 1, 1] (by kernel_rfl) (by kernel_rfl) fun d d' => by kernel_rfl
/- posthouse/parts.each$1$1 -/
def x64i : IF := ⟨.fn 71, [.h (.tree (.prod (.list (.prod .str .str)) (.list .byte))), .h (.int .i64), .ptr 0 0, .ptr 1 0, .ptr 2 0], [(0, .cells [.yld 3] 114), (1, .cells [.h (.int .i64)] 3), (2, .cells [.fn 71 [.ptr 0 0, .ptr 1 0, .ptr 2 0]] 115), (3, .loop .ready none 41 36 [(2, .ptr 4 0), (3, .ptr 5 0)] [11, 12] 2 6), (4, .dat (.prod (.int .i64) (.int .i64)) 27), (5, .cells [.h .bool] 4), (6, .dfr)], _, .two (RS.mk (.c (.bool false)) [(0, .cells [.yld 3] 114), (1, .cells [.h (.int .i64)] 3), (2, .cells [.fn 71 [.ptr 0 0, .ptr 1 0, .ptr 2 0]] 115), (3, .loop .done (some .ret) 41 36 [(2, .ptr 4 0), (3, .ptr 5 0)] [11, 12] 2 6), (4, .dat (.prod (.int .i64) (.int .i64)) 27), (5, .cells [.h .bool] 4), (6, .dfr)]) (RS.mk (.c (.bool true)) [(0, .cells [.yld 3] 114), (1, .cells [.h (.int .i64)] 3), (2, .cells [.fn 71 [.ptr 0 0, .ptr 1 0, .ptr 2 0]] 115), (3, .loop .ready none 41 36 [(2, .ptr 4 0), (3, .ptr 5 0)] [11, 12] 2 6), (4, .dat (.prod (.int .i64) (.int .i64)) 27), (5, .cells [.h .bool] 4), (6, .dfr)])⟩
noncomputable def x64 (s71 : EI Tryz.prog x64i) (fu : Nat) : Fx Tryz.prog x64i := fx Tryz.f71 71 Tryz.func71 [x63s.p, s71.p] false [] tags0 [(pkey [(0, 488), (0, 489), (2, 122), (1, 61), (0, 31)], ⟨33, [(1, .h (.int .i64)), (4, .ptr 2 0), (20, .h (.list (.tree (.prod (.list (.prod .str .str)) (.list .byte))))), (21, .h (.int .i64)), (22, .h (.int .i64))], [(0, .cells [.yld 3] 114), (1, .cells [.h (.int .i64)] 3), (2, .cells [.fn 71 [.ptr 0 0, .ptr 1 0, .ptr 2 0]] 115), (3, .loop .ready none 41 36 [(2, .ptr 4 0), (3, .ptr 5 0)] [11, 12] 2 6), (4, .dat (.prod (.int .i64) (.int .i64)) 27), (5, .cells [.h .bool] 4), (6, .dfr)], 64, []⟩)]
noncomputable def x64p0 (s71 : EI Tryz.prog x64i) (fu : Nat) : Nat → (x64 s71 fu).L 0 := Fx.lp (F_parts_each_1_1_p0 s71.f fu) (F_parts_each_1_1_b0 s71.f fu) (fun _ => rfl) (fun _ => rfl) (fun r0 => [r0.s]) fun _ d => by kernel_rfl
noncomputable def x64k (s71 : EI Tryz.prog x64i) (fu : Nat) : EI Tryz.prog x64i := (x64 s71 fu).fin (F_parts_each_1_1_b s71.f fu) [(x64p0 s71 fu fu).s] Tryz.call71 rfl rfl (by kernel_rfl) fun d d' => by kernel_rfl
noncomputable def x64s (fu : Nat) : EI Tryz.prog x64i := .rc (F_parts_each_1_1_n fu) (fun r => F_parts_each_1_1_b r fu) (fun _ _ => rfl) (fun _ => rfl) (fun s71 => x64k s71 fu) (fun _ => rfl) fu
/- posthouse/parts.each$1 -/
def x65i : IF := ⟨.fn 70, [.yld 0, .ptr 1 0], [(0, .loop .ready none 41 36 [(2, .ptr 2 0), (3, .ptr 3 0)] [11, 12] 2 4), (1, .dat (.tree (.prod (.list (.prod .str .str)) (.list .byte))) 54), (2, .dat (.prod (.int .i64) (.int .i64)) 27), (3, .cells [.h .bool] 4), (4, .dfr)], _, .two (RS.mk (.tup []) [(0, .loop .done (some .ret) 41 36 [(2, .ptr 2 0), (3, .ptr 3 0)] [11, 12] 2 4), (1, .dat (.tree (.prod (.list (.prod .str .str)) (.list .byte))) 54), (2, .dat (.prod (.int .i64) (.int .i64)) 27), (3, .cells [.h .bool] 4), (4, .dfr)]) (RS.mk (.tup []) [(0, .loop .ready none 41 36 [(2, .ptr 2 0), (3, .ptr 3 0)] [11, 12] 2 4), (1, .dat (.tree (.prod (.list (.prod .str .str)) (.list .byte))) 54), (2, .dat (.prod (.int .i64) (.int .i64)) 27), (3, .cells [.h .bool] 4), (4, .dfr)])⟩
noncomputable def x65 (fu : Nat) : Fx Tryz.prog x65i := fx Tryz.f70 70 Tryz.func70 [(x64s fu).p] false [] tags0 []
noncomputable def x65s (fu : Nat) : EI Tryz.prog x65i := (x65 fu).fin (F_parts_each_1 fu) [] Tryz.call70 rfl rfl (by kernel_rfl) fun d d' => by kernel_rfl
/- posthouse/parts.whole -/
def x66i : IF := ⟨.fn 94, [.h (.tree (.prod (.list (.prod .str .str)) (.list .byte)))], [], _, RS.mk (.h (.int .i64)) []⟩
noncomputable def x66 (fu : Nat) : Fx Tryz.prog x66i := fx Tryz.f94 94 Tryz.func94 [(x41s fu).p, (x22s fu).p] false [] tags0 [(pkey [(0, 30), (0, 31)], ⟨69, [(1, .ptr 32 0), (3, .ptr 33 0), (4, .h (.int .i64))], [(32, .dat (.tree (.prod (.list (.prod .str .str)) (.list .byte))) 54), (33, .cells [.h .str, .h .str, .c .nilS] 138)], 64, []⟩), (pkey [(0, 29), (0, 15)], ⟨69, [(1, .ptr 32 0), (3, .ptr 33 0), (4, .h (.int .i64)), (31, .h .bool)], [(32, .dat (.tree (.prod (.list (.prod .str .str)) (.list .byte))) 54), (33, .cells [.h .str, .h .str, .c .nilS] 138)], 64, []⟩)]
noncomputable def x66p1 (fu : Nat) : (x66 fu).L 0 := Fx.jn (F_parts_whole_p1 fu) [] fun d => by kernel_rfl
noncomputable def x66p0 (fu : Nat) : (x66 fu).L 1 := Fx.jn (F_parts_whole_p0 fu) [(x66p1 fu).s] fun d => by kernel_rfl
noncomputable def x66s (fu : Nat) : EI Tryz.prog x66i := (x66 fu).fin (F_parts_whole fu) [(x66p0 fu).s] Tryz.call94 rfl rfl (by kernel_rfl) fun d d' => by kernel_rfl
/- posthouse/parts.check -/
def x67i : IF := ⟨.fn 69, [.h (.prod (.tree (.prod (.list (.prod .str .str)) (.list .byte))) (.int .i64))], [], _, RS.mk (.h (.int .i64)) []⟩
noncomputable def x67 (fu : Nat) : Fx Tryz.prog x67i := fx Tryz.f69 69 Tryz.func69 [(x20s fu).p, x19s.p, (x66s fu).p, (x38s fu).p, (x57s fu).p] false [] tags0 []
noncomputable def x67s (fu : Nat) : EI Tryz.prog x67i := (x67 fu).fin (F_parts_check fu) [] Tryz.call69 rfl rfl (by kernel_rfl) fun d d' => by kernel_rfl
/- posthouse/parts.Validate -/
def x68i : IF := ⟨.yld 0, [.h (.int .i64), .agg [.h (.list (.prod .str .str)), .h (.list .byte), .h (.list (.tree (.prod (.list (.prod .str .str)) (.list .byte)))), .h (.int .i64)]], [(0, .loop .ready none 41 36 [(2, .ptr 1 0)] [26, 27] 3 2), (1, .dat (.prod (.int .i64) (.int .i64)) 27), (2, .dfr)], _, .two (RS.mk (.c (.bool false)) [(0, .loop .done (some .ret) 41 36 [(2, .ptr 1 0)] [26, 27] 3 2), (1, .dat (.prod (.int .i64) (.int .i64)) 27), (2, .dfr)]) (RS.mk (.c (.bool true)) [(0, .loop .ready none 41 36 [(2, .ptr 1 0)] [26, 27] 3 2), (1, .dat (.prod (.int .i64) (.int .i64)) 27), (2, .dfr)])⟩
noncomputable def x68 (fu : Nat) : Fx Tryz.prog x68i := fx Tryz.f41 41 Tryz.func41 [(x67s fu).p, x0s.p] false [([0, 1, 0, 1, 1, 1, 1], 3)] (tags1 rfl tags0) []
noncomputable def x68s (fu : Nat) : EI Tryz.prog x68i := (x68 fu).fiy (F_parts_Validate_r3 fu) [] 0 rfl [0, 1, 0, 1, 1, 1, 1] (by kernel_rfl) (by kernel_rfl) fun d d' => by kernel_rfl
/- posthouse/parts.each$1$1 -/
def x69i : IF := ⟨.fn 71, [.h (.tree (.prod (.list (.prod .str .str)) (.list .byte))), .h (.int .i64), .ptr 0 0, .ptr 1 0, .ptr 2 0], [(0, .cells [.yld 3] 114), (1, .cells [.h (.int .i64)] 3), (2, .cells [.fn 71 [.ptr 0 0, .ptr 1 0, .ptr 2 0]] 115), (3, .loop .ready none 41 36 [(2, .ptr 4 0)] [26, 27] 3 5), (4, .dat (.prod (.int .i64) (.int .i64)) 27), (5, .dfr)], _, .two (RS.mk (.c (.bool false)) [(0, .cells [.yld 3] 114), (1, .cells [.h (.int .i64)] 3), (2, .cells [.fn 71 [.ptr 0 0, .ptr 1 0, .ptr 2 0]] 115), (3, .loop .done (some .ret) 41 36 [(2, .ptr 4 0)] [26, 27] 3 5), (4, .dat (.prod (.int .i64) (.int .i64)) 27), (5, .dfr)]) (RS.mk (.c (.bool true)) [(0, .cells [.yld 3] 114), (1, .cells [.h (.int .i64)] 3), (2, .cells [.fn 71 [.ptr 0 0, .ptr 1 0, .ptr 2 0]] 115), (3, .loop .ready none 41 36 [(2, .ptr 4 0)] [26, 27] 3 5), (4, .dat (.prod (.int .i64) (.int .i64)) 27), (5, .dfr)])⟩
noncomputable def x69 (s74 : EI Tryz.prog x69i) (fu : Nat) : Fx Tryz.prog x69i := fx Tryz.f71 71 Tryz.func71 [(x68s fu).p, s74.p] false [] tags0 [(pkey [(0, 488), (0, 489), (2, 122), (1, 61), (0, 31)], ⟨33, [(1, .h (.int .i64)), (4, .ptr 2 0), (20, .h (.list (.tree (.prod (.list (.prod .str .str)) (.list .byte))))), (21, .h (.int .i64)), (22, .h (.int .i64))], [(0, .cells [.yld 3] 114), (1, .cells [.h (.int .i64)] 3), (2, .cells [.fn 71 [.ptr 0 0, .ptr 1 0, .ptr 2 0]] 115), (3, .loop .ready none 41 36 [(2, .ptr 4 0)] [26, 27] 3 5), (4, .dat (.prod (.int .i64) (.int .i64)) 27), (5, .dfr)], 64, []⟩)]
noncomputable def x69p0 (s74 : EI Tryz.prog x69i) (fu : Nat) : Nat → (x69 s74 fu).L 0 := Fx.lp (F_parts_each_1_1_v1_p0 s74.f fu) (F_parts_each_1_1_v1_b0 s74.f fu) (fun _ => rfl) (fun _ => rfl) (fun r0 => [r0.s]) fun _ d => by kernel_rfl
noncomputable def x69k (s74 : EI Tryz.prog x69i) (fu : Nat) : EI Tryz.prog x69i := (x69 s74 fu).fin (F_parts_each_1_1_v1_b s74.f fu) [(x69p0 s74 fu fu).s] Tryz.call71 rfl rfl (by kernel_rfl) fun d d' => by kernel_rfl
noncomputable def x69s (fu : Nat) : EI Tryz.prog x69i := .rc (F_parts_each_1_1_v1_n fu) (fun r => F_parts_each_1_1_v1_b r fu) (fun _ _ => rfl) (fun _ => rfl) (fun s74 => x69k s74 fu) (fun _ => rfl) fu
/- posthouse/parts.each$1 -/
def x70i : IF := ⟨.fn 70, [.yld 0, .ptr 1 0], [(0, .loop .ready none 41 36 [(2, .ptr 2 0)] [26, 27] 3 3), (1, .dat (.tree (.prod (.list (.prod .str .str)) (.list .byte))) 54), (2, .dat (.prod (.int .i64) (.int .i64)) 27), (3, .dfr)], _, .two (RS.mk (.tup []) [(0, .loop .done (some .ret) 41 36 [(2, .ptr 2 0)] [26, 27] 3 3), (1, .dat (.tree (.prod (.list (.prod .str .str)) (.list .byte))) 54), (2, .dat (.prod (.int .i64) (.int .i64)) 27), (3, .dfr)]) (RS.mk (.tup []) [(0, .loop .ready none 41 36 [(2, .ptr 2 0)] [26, 27] 3 3), (1, .dat (.tree (.prod (.list (.prod .str .str)) (.list .byte))) 54), (2, .dat (.prod (.int .i64) (.int .i64)) 27), (3, .dfr)])⟩
noncomputable def x70 (fu : Nat) : Fx Tryz.prog x70i := fx Tryz.f70 70 Tryz.func70 [(x69s fu).p] false [] tags0 []
noncomputable def x70s (fu : Nat) : EI Tryz.prog x70i := (x70 fu).fin (F_parts_each_1_v1 fu) [] Tryz.call70 rfl rfl (by kernel_rfl) fun d d' => by kernel_rfl
/- posthouse/parts.Validate -/
def x71i : IF := ⟨.fn 41, [.h (.tree (.prod (.list (.prod .str .str)) (.list .byte)))], [], _, RS.mk (.h (.prod (.int .i64) (.int .i64))) []⟩
noncomputable def x71 (fu : Nat) : Fx Tryz.prog x71i := fx Tryz.f41 41 Tryz.func41 [x62s.p, (x65s fu).p, x0s.p, (x70s fu).p, x17s.p] false [([0, 1, 0, 1, 1], 2), ([0, 1, 0, 1, 1, 1, 1], 3)] (tags1 rfl (tags1 rfl tags0)) []
noncomputable def x71s (fu : Nat) : EI Tryz.prog x71i := (x71 fu).fin (F_parts_Validate fu) [] Tryz.call41 rfl rfl (by kernel_rfl) fun d d' => by kernel_rfl
end Go.Sym
/- The Go functions compute the plain functions: printed by a program; each is reckoned by the kernel. -/
namespace Go.Sym
open Go.Proofs
set_option linter.unusedVariables false
set_option maxRecDepth 100000
set_option maxHeartbeats 2000000
/- posthouse/parts.Split -/
def x72i : IF := ⟨.fn 26, [.h (.prod (.list (.prod .str .str)) (.list .byte))], [], _, RS.mk (.tup [.h (.tree (.prod (.list (.prod .str .str)) (.list .byte))), .h (.prod (.int .i64) (.int .i64))]) []⟩
noncomputable def x72 (fu : Nat) : Fx Tryz.prog x72i := fx Tryz.f26 26 Tryz.func26 [(x40s fu).p, x19s.p, (x61s fu).p, (x71s fu).p, x0s.p, x17s.p] false [] tags0 []
noncomputable def x72s (fu : Nat) : EI Tryz.prog x72i := (x72 fu).fin (F_parts_Split fu) [] Tryz.call26 rfl rfl (by kernel_rfl) fun d d' => by kernel_rfl
/- posthouse/parts.Each -/
def x73i : IF := ⟨.fn 27, [.h (.tree (.prod (.list (.prod .str .str)) (.list .byte)))], [], _, RS.mk (.fn 42 [.ptr 0 0]) [(0, .dat (.tree (.prod (.list (.prod .str .str)) (.list .byte))) 54)]⟩
noncomputable def x73 : Fx Tryz.prog x73i := fx Tryz.f27 27 Tryz.func27 [] false [] tags0 []
noncomputable def x73s : EI Tryz.prog x73i := x73.fin F_parts_Each [] Tryz.call27 rfl rfl (by kernel_rfl) fun d d' => by kernel_rfl
/- posthouse/transfer.plain -/
def x74i : IF := ⟨.fn 124, [.h .str, .h .byte], [], _, RS.mk (.agg [.h .str, .fn 158 [.ptr 0 0], .fn 160 []]) [(0, .cells [.h .byte] 5)]⟩
noncomputable def x74 : Fx Tryz.prog x74i := fx Tryz.f124 124 Tryz.func124 [] false [] tags0 []
noncomputable def x74s : EI Tryz.prog x74i := x74.fin F_transfer_plain [] Tryz.call124 rfl rfl (by kernel_rfl) fun d d' => by kernel_rfl
/- posthouse/transfer.find -/
def x75i : IF := ⟨.fn 95, [.h .str], [], _, .two (RS.mk (.tup [.agg [.h .str, .fn 158 [.ptr 0 0], .fn 160 []], .h .bool]) [(0, .cells [.h .byte] 5)]) (.two (RS.mk (.tup [.agg [.h .str, .fn 125 [], .fn 126 []], .h .bool]) []) (.two (RS.mk (.tup [.agg [.h .str, .fn 127 [], .fn 128 []], .h .bool]) []) (RS.mk (.tup [.agg [.h .str, .c .nilFunc, .c .nilFunc], .h .bool]) [])))⟩
noncomputable def x75 (fu : Nat) : Fx Tryz.prog x75i := fx Tryz.f95 95 Tryz.func95 [x74s.p, (x22s fu).p] false [] tags0 []
noncomputable def x75s (fu : Nat) : EI Tryz.prog x75i := (x75 fu).fin (F_transfer_find fu) [] Tryz.call95 rfl rfl (by kernel_rfl) fun d d' => by kernel_rfl
/- posthouse/transfer.valid -/
def x76i : IF := ⟨.fn 72, [.h (.list .byte), .h .str], [], _, .two (RS.mk (.tup [.agg [.h .str, .fn 158 [.ptr 0 0], .fn 160 []], .h (.prod (.int .i64) (.int .i64))]) [(0, .cells [.h .byte] 5)]) (.two (RS.mk (.tup [.agg [.h .str, .fn 125 [], .fn 126 []], .h (.prod (.int .i64) (.int .i64))]) []) (.two (RS.mk (.tup [.agg [.h .str, .fn 127 [], .fn 128 []], .h (.prod (.int .i64) (.int .i64))]) []) (RS.mk (.tup [.agg [.h .str, .c .nilFunc, .c .nilFunc], .h (.prod (.int .i64) (.int .i64))]) [])))⟩
noncomputable def x76 (fu : Nat) : Fx Tryz.prog x76i := fx Tryz.f72 72 Tryz.func72 [(x75s fu).p, x0s.p, x17s.p] false [] tags0 []
noncomputable def x76s (fu : Nat) : EI Tryz.prog x76i := (x76 fu).fin (F_transfer_valid fu) [] Tryz.call72 rfl rfl (by kernel_rfl) fun d d' => by kernel_rfl
/- posthouse/transfer.copied -/
def x77i : IF := ⟨.fn 160, [.h (.list .byte)], [], _, RS.mk (.tup [.own 0, .h (.prod (.int .i64) (.int .i64))]) [(0, .row .byte 5)]⟩
noncomputable def x77 : Fx Tryz.prog x77i := fx Tryz.f160 160 Tryz.func160 [x17s.p] false [] tags0 []
noncomputable def x77s : EI Tryz.prog x77i := x77.fin F_transfer_copied [] Tryz.call160 rfl rfl (by kernel_rfl) fun d d' => by kernel_rfl
/- posthouse/transfer.Decode -/
def x78i : IF := ⟨.fn 44, [.h (.list .byte), .h .str], [], _, RS.mk (.tup [.own 0, .h (.prod (.int .i64) (.int .i64))]) [(0, .row .byte 5)]⟩
noncomputable def x78 (fu : Nat) : Fx Tryz.prog x78i := fx Tryz.f44 44 Tryz.func44 [(x76s fu).p, x19s.p, x77s.p] false [] tags0 []
noncomputable def x78s (fu : Nat) : EI Tryz.prog x78i := (x78 fu).fin (F_transfer_Decode fu) [] Tryz.call44 rfl rfl (by kernel_rfl) fun d d' => by kernel_rfl
/- posthouse/view.Content -/
def x79i : IF := ⟨.fn 28, [.h (.tree (.prod (.list (.prod .str .str)) (.list .byte)))], [], _, RS.mk (.own 0) [(0, .row .byte 5)]⟩
noncomputable def x79 (fu : Nat) : Fx Tryz.prog x79i := fx Tryz.f28 28 Tryz.func28 [(x22s fu).p, (x78s fu).p] false [] tags0 [(pkey [(0, 104), (0, 105), (2, 26), (1, 13), (0, 7)], ⟨40, [(1, .ptr 32 0), (10, .h (.list (.prod .str .str))), (11, .h (.int .i64)), (12, .h (.int .i64))], [(32, .dat (.tree (.prod (.list (.prod .str .str)) (.list .byte))) 54)], 64, []⟩)]
noncomputable def x79p0 (fu : Nat) : Nat → (x79 fu).L 0 := Fx.lp (F_view_Content_p0 fu) (F_view_Content_b0 fu) (fun _ => rfl) (fun _ => rfl) (fun r0 => [r0.s]) fun _ d => by kernel_rfl
noncomputable def x79s (fu : Nat) : EI Tryz.prog x79i := (x79 fu).fin (F_view_Content fu) [(x79p0 fu fu).s] Tryz.call28 rfl rfl (by kernel_rfl) fun d d' => by kernel_rfl
theorem pow_glob : LC.glob 1 = some ⟨.int .u64, Lib.pow10Tab⟩ := rfl
theorem pow_size : (1, 20) ∈ LC.sizes := by decide
/- posthouse/canonical.Form -/
def x80i : IF := ⟨.yld 0, [.h (.int .i64), .agg [.h (.list (.prod .str .str)), .h (.list .byte), .h (.list (.tree (.prod (.list (.prod .str .str)) (.list .byte))))]], [(0, .loop .ready none 13 79 [(6, .ptr 1 0)] [24, 25] 4 2), (1, .cells [.own 3] 25), (2, .dfr), (3, .row .byte 5)], _, RS.mk (.c (.bool true)) [(0, .loop .ready none 13 79 [(6, .ptr 1 0)] [24, 25] 4 2), (1, .cells [.own 4] 25), (2, .dfr), (3, .dead), (4, .row .byte 5)]⟩
noncomputable def x80 (fu : Nat) : Fx Tryz.prog x80i := fx Tryz.f13 13 Tryz.func13 [(x22s fu).p, (x79s fu).p, (x35s fu).p, (x27s fu).p, ⟨itoaI.e F_strconv_Itoa, itoa_ok pow_glob pow_size⟩] false [([0, 1, 0, 1, 1, 1, 1], 4)] (tags1 rfl tags0) [(pkey [(0, 256679), (2, 16042), (1, 8021), (0, 4011), (1, 501)], ⟨79, [(6, .ptr 1 0), (8, .ptr 32 0), (9, .own 33), (10, .c .nilS), (27, .h (.list (.prod .str .str))), (28, .h (.int .i64)), (29, .h (.int .i64))], [(0, .loop .busy none 13 79 [(6, .ptr 1 0)] [24, 25] 4 2), (1, .cells [.own 34] 25), (2, .dfr), (3, .dead), (32, .dat (.tree (.prod (.list (.prod .str .str)) (.list .byte))) 54), (33, .row .byte 5), (34, .row .byte 5)], 64, []⟩), (pkey [(0, 2053427), (1, 256678), (0, 256679), (2, 16042), (1, 8021), (0, 4011), (1, 501)], ⟨79, [(6, .ptr 1 0), (8, .ptr 32 0), (9, .own 35), (10, .c .nilS), (12, .ptr 33 0), (27, .h (.list (.prod .str .str))), (28, .h (.int .i64)), (29, .h (.int .i64)), (42, .h .bool)], [(0, .loop .busy none 13 79 [(6, .ptr 1 0)] [24, 25] 4 2), (1, .cells [.own 34] 25), (2, .dfr), (3, .dead), (32, .dat (.tree (.prod (.list (.prod .str .str)) (.list .byte))) 54), (33, .dat (.prod .str .str) 39), (34, .row .byte 5), (35, .row .byte 5)], 64, []⟩), (pkey [(0, 16046), (0, 16047), (1, 501)], ⟨79, [(6, .ptr 1 0), (8, .ptr 32 0), (9, .own 35), (10, .own 33)], [(0, .loop .busy none 13 79 [(6, .ptr 1 0)] [24, 25] 4 2), (1, .cells [.own 34] 25), (2, .dfr), (3, .dead), (32, .dat (.tree (.prod (.list (.prod .str .str)) (.list .byte))) 54), (33, .row .byte 5), (34, .row .byte 5), (35, .row .byte 5)], 64, []⟩), (pkey [(0, 64168), (0, 64169), (2, 16042), (1, 8021), (0, 4011), (1, 501)], ⟨79, [(6, .ptr 1 0), (8, .ptr 32 0), (9, .own 34), (10, .c .nilS), (27, .h (.list (.prod .str .str))), (28, .h (.int .i64)), (29, .h (.int .i64))], [(0, .loop .busy none 13 79 [(6, .ptr 1 0)] [24, 25] 4 2), (1, .cells [.own 33] 25), (2, .dfr), (3, .dead), (32, .dat (.tree (.prod (.list (.prod .str .str)) (.list .byte))) 54), (33, .row .byte 5), (34, .row .byte 5)], 64, []⟩)]
noncomputable def x80p3 (fu : Nat) (r0 : (x80 fu).L 3) : (x80 fu).L 0 := Fx.jn (F_canonical_Form_r4_p3 fu r0.f) [r0.s] fun d => by kernel_rfl
noncomputable def x80p1 (fu : Nat) (r0 : (x80 fu).L 3) : (x80 fu).L 1 := Fx.jn (F_canonical_Form_r4_p1 fu r0.f) [(x80p3 fu r0).s] fun d => by kernel_rfl
noncomputable def x80p2 (fu : Nat) : (x80 fu).L 2 := Fx.jn (F_canonical_Form_r4_p2 fu) [] fun d => by kernel_rfl
noncomputable def x80p0 (fu : Nat) : Nat → (x80 fu).L 3 := Fx.lp (F_canonical_Form_r4_p0 fu) (F_canonical_Form_r4_b0 fu) (fun _ => rfl) (fun _ => rfl) (fun r0 => [(x80p1 fu r0).s, (x80p2 fu).s]) fun _ d => by kernel_rfl
noncomputable def x80s (fu : Nat) : EI Tryz.prog x80i := (x80 fu).fiy (F_canonical_Form_r4 fu) [(x80p0 fu fu).s] 0 rfl [0, 1, 0, 1, 1, 1, 1] (by kernel_rfl) (by kernel_rfl) fun d d' => by kernel_rfl
/- posthouse/parts.Each$1 -/
def x81i : IF := ⟨.yld 0, [.h (.int .i64), .agg [.h (.list (.prod .str .str)), .h (.list .byte), .h (.list (.tree (.prod (.list (.prod .str .str)) (.list .byte)))), .h (.int .i64)]], [(0, .loop .ready none 42 15 [(2, .ptr 1 0)] [7, 8] 5 2), (1, .cells [.yld 3] 78), (2, .dfr), (3, .loop .ready none 13 79 [(6, .ptr 4 0)] [24, 25] 4 5), (4, .cells [.own 6] 25), (5, .dfr), (6, .row .byte 5)], _, RS.mk (.c (.bool true)) [(0, .loop .ready none 42 15 [(2, .ptr 1 0)] [7, 8] 5 2), (1, .cells [.yld 3] 78), (2, .dfr), (3, .loop .ready none 13 79 [(6, .ptr 4 0)] [24, 25] 4 5), (4, .cells [.own 7] 25), (5, .dfr), (6, .dead), (7, .row .byte 5)]⟩
noncomputable def x81 (fu : Nat) : Fx Tryz.prog x81i := fx Tryz.f42 42 Tryz.func42 [(x80s fu).p] false [([0, 1, 1], 5)] (tags1 rfl tags0) []
noncomputable def x81s (fu : Nat) : EI Tryz.prog x81i := (x81 fu).fiy (F_parts_Each_1_r5 fu) [] 0 rfl [0, 1, 1] (by kernel_rfl) (by kernel_rfl) fun d d' => by kernel_rfl
/- posthouse/parts.each$1$1 -/
def x82i : IF := ⟨.fn 71, [.h (.tree (.prod (.list (.prod .str .str)) (.list .byte))), .h (.int .i64), .ptr 0 0, .ptr 1 0, .ptr 2 0], [(0, .cells [.yld 3] 114), (1, .cells [.h (.int .i64)] 3), (2, .cells [.fn 71 [.ptr 0 0, .ptr 1 0, .ptr 2 0]] 115), (3, .loop .ready none 42 15 [(2, .ptr 4 0)] [7, 8] 5 5), (4, .cells [.yld 6] 78), (5, .dfr), (6, .loop .ready none 13 79 [(6, .ptr 7 0)] [24, 25] 4 8), (7, .cells [.own 9] 25), (8, .dfr), (9, .row .byte 5)], _, RS.mk (.c (.bool true)) [(0, .cells [.yld 3] 114), (1, .cells [.h (.int .i64)] 3), (2, .cells [.fn 71 [.ptr 0 0, .ptr 1 0, .ptr 2 0]] 115), (3, .loop .ready none 42 15 [(2, .ptr 4 0)] [7, 8] 5 5), (4, .cells [.yld 6] 78), (5, .dfr), (6, .loop .ready none 13 79 [(6, .ptr 7 0)] [24, 25] 4 8), (7, .cells [.own 10] 25), (8, .dfr), (9, .dead), (10, .row .byte 5)]⟩
noncomputable def x82 (s81 : EI Tryz.prog x82i) (fu : Nat) : Fx Tryz.prog x82i := fx Tryz.f71 71 Tryz.func71 [(x81s fu).p, s81.p] false [] tags0 [(pkey [(0, 488), (0, 489), (2, 122), (1, 61), (0, 31)], ⟨33, [(1, .h (.int .i64)), (4, .ptr 2 0), (20, .h (.list (.tree (.prod (.list (.prod .str .str)) (.list .byte))))), (21, .h (.int .i64)), (22, .h (.int .i64))], [(0, .cells [.yld 3] 114), (1, .cells [.h (.int .i64)] 3), (2, .cells [.fn 71 [.ptr 0 0, .ptr 1 0, .ptr 2 0]] 115), (3, .loop .ready none 42 15 [(2, .ptr 4 0)] [7, 8] 5 5), (4, .cells [.yld 6] 78), (5, .dfr), (6, .loop .ready none 13 79 [(6, .ptr 7 0)] [24, 25] 4 8), (7, .cells [.own 32] 25), (8, .dfr), (9, .dead), (32, .row .byte 5)], 64, []⟩)]
noncomputable def x82p0 (s81 : EI Tryz.prog x82i) (fu : Nat) : Nat → (x82 s81 fu).L 0 := Fx.lp (F_parts_each_1_1_v2_p0 s81.f fu) (F_parts_each_1_1_v2_b0 s81.f fu) (fun _ => rfl) (fun _ => rfl) (fun r0 => [r0.s]) fun _ d => by kernel_rfl
noncomputable def x82k (s81 : EI Tryz.prog x82i) (fu : Nat) : EI Tryz.prog x82i := (x82 s81 fu).fin (F_parts_each_1_1_v2_b s81.f fu) [(x82p0 s81 fu fu).s] Tryz.call71 rfl rfl (by kernel_rfl) fun d d' => by kernel_rfl
noncomputable def x82s (fu : Nat) : EI Tryz.prog x82i := .rc (F_parts_each_1_1_v2_n fu) (fun r => F_parts_each_1_1_v2_b r fu) (fun _ _ => rfl) (fun _ => rfl) (fun s81 => x82k s81 fu) (fun _ => rfl) fu
/- posthouse/parts.each$1 -/
def x83i : IF := ⟨.fn 70, [.yld 0, .ptr 1 0], [(0, .loop .ready none 42 15 [(2, .ptr 2 0)] [7, 8] 5 3), (1, .dat (.tree (.prod (.list (.prod .str .str)) (.list .byte))) 54), (2, .cells [.yld 4] 78), (3, .dfr), (4, .loop .ready none 13 79 [(6, .ptr 5 0)] [24, 25] 4 6), (5, .cells [.own 7] 25), (6, .dfr), (7, .row .byte 5)], _, RS.mk (.tup []) [(0, .loop .ready none 42 15 [(2, .ptr 2 0)] [7, 8] 5 3), (1, .dat (.tree (.prod (.list (.prod .str .str)) (.list .byte))) 54), (2, .cells [.yld 4] 78), (3, .dfr), (4, .loop .ready none 13 79 [(6, .ptr 5 0)] [24, 25] 4 6), (5, .cells [.own 8] 25), (6, .dfr), (7, .dead), (8, .row .byte 5)]⟩
noncomputable def x83 (fu : Nat) : Fx Tryz.prog x83i := fx Tryz.f70 70 Tryz.func70 [(x82s fu).p] false [] tags0 []
noncomputable def x83s (fu : Nat) : EI Tryz.prog x83i := (x83 fu).fin (F_parts_each_1_v2 fu) [] Tryz.call70 rfl rfl (by kernel_rfl) fun d d' => by kernel_rfl
/- posthouse/parts.Each$1 -/
def x84i : IF := ⟨.fn 42, [.yld 0, .ptr 1 0], [(0, .loop .ready none 13 79 [(6, .ptr 2 0)] [24, 25] 4 3), (1, .dat (.tree (.prod (.list (.prod .str .str)) (.list .byte))) 54), (2, .cells [.own 4] 25), (3, .dfr), (4, .row .byte 5)], _, RS.mk (.tup []) [(0, .loop .ready none 13 79 [(6, .ptr 2 0)] [24, 25] 4 3), (1, .dat (.tree (.prod (.list (.prod .str .str)) (.list .byte))) 54), (2, .cells [.own 5] 25), (3, .dfr), (4, .dead), (5, .row .byte 5)]⟩
noncomputable def x84 (fu : Nat) : Fx Tryz.prog x84i := fx Tryz.f42 42 Tryz.func42 [x62s.p, (x83s fu).p] false [([0, 1, 1], 5)] (tags1 rfl tags0) []
noncomputable def x84s (fu : Nat) : EI Tryz.prog x84i := (x84 fu).fin (F_parts_Each_1 fu) [] Tryz.call42 rfl rfl (by kernel_rfl) fun d d' => by kernel_rfl
/- posthouse/canonical.Form -/
def x85i : IF := ⟨.fn 13, [.h (.prod (.list (.prod .str .str)) (.list .byte))], [], _, RS.mk (.tup [.own 0, .h (.prod (.int .i64) (.int .i64))]) [(0, .row .byte 5)]⟩
noncomputable def x85 (fu : Nat) : Fx Tryz.prog x85i := fx Tryz.f13 13 Tryz.func13 [(x72s fu).p, x19s.p, x73s.p, (x84s fu).p, x17s.p] false [([0, 1, 0, 1, 1, 1, 1], 4)] (tags1 rfl tags0) []
noncomputable def x85s (fu : Nat) : EI Tryz.prog x85i := (x85 fu).fin (F_canonical_Form fu) [] Tryz.call13 rfl rfl (by kernel_rfl) fun d d' => by kernel_rfl
/- posthouse/posthouselaw2.canonicalExample -/
def x86i : IF := ⟨.fn 5, [], [], _, RS.mk (.h .bool) []⟩
noncomputable def x86 (fu : Nat) : Fx Tryz.prog x86i := fx Tryz.f5 5 Tryz.func5 [(x28s fu).p, (x36s fu).p, (x85s fu).p] false [] tags0 []
noncomputable def x86s (fu : Nat) : EI Tryz.prog x86i := (x86 fu).fin (F_W2_canonicalExample fu) [] Tryz.call5 rfl rfl (by kernel_rfl) fun d d' => by kernel_rfl
/- posthouse/posthouseref1.At -/
def x87i : IF := ⟨.fn 8, [.h (.int .i64), .h (.int .i64)], [], _, RS.mk (.h (.prod (.int .i64) (.int .i64))) []⟩
noncomputable def x87 : Fx Tryz.prog x87i := fx Tryz.f8 8 Tryz.func8 [] false [] tags0 []
noncomputable def x87s : EI Tryz.prog x87i := x87.fin F_R1_At [] Tryz.call8 rfl rfl (by kernel_rfl) fun d d' => by kernel_rfl
/- posthouse/posthouseref1.In -/
def x88i : IF := ⟨.fn 54, [.h (.int .i64), .h (.int .i64), .h (.int .i64)], [], _, RS.mk (.h .bool) []⟩
noncomputable def x88 : Fx Tryz.prog x88i := fx Tryz.f54 54 Tryz.func54 [] false [] tags0 []
noncomputable def x88s : EI Tryz.prog x88i := x88.fin F_R1_In [] Tryz.call54 rfl rfl (by kernel_rfl) fun d d' => by kernel_rfl
/- posthouse/posthouseref1.FieldName -/
def x89i : IF := ⟨.fn 51, [.h .str], [], _, RS.mk (.h .bool) []⟩
noncomputable def x89 (fu : Nat) : Fx Tryz.prog x89i := fx Tryz.f51 51 Tryz.func51 [x88s.p] false [] tags0 [(pkey [(0, 208), (0, 209), (0, 105), (2, 26), (1, 13), (0, 7)], ⟨25, [(0, .h .str), (3, .h (.int .i64))], [], 64, []⟩)]
noncomputable def x89p0 (fu : Nat) : Nat → (x89 fu).L 0 := Fx.lp (F_R1_FieldName_p0 fu) (F_R1_FieldName_b0 fu) (fun _ => rfl) (fun _ => rfl) (fun r0 => [r0.s]) fun _ d => by kernel_rfl
noncomputable def x89s (fu : Nat) : EI Tryz.prog x89i := (x89 fu).fin (F_R1_FieldName fu) [(x89p0 fu fu).s] Tryz.call51 rfl rfl (by kernel_rfl) fun d d' => by kernel_rfl
/- posthouse/posthouseref1.OneOf -/
def x90i : IF := ⟨.fn 52, [.h .byte, .h .str], [], _, RS.mk (.h .bool) []⟩
noncomputable def x90 (fu : Nat) : Fx Tryz.prog x90i := fx Tryz.f52 52 Tryz.func52 [] false [] tags0 [(pkey [(0, 208), (0, 209), (0, 105), (2, 26), (1, 13), (0, 7)], ⟨17, [(0, .h .byte), (1, .h .str), (5, .h (.int .i64))], [], 64, []⟩)]
noncomputable def x90p0 (fu : Nat) : Nat → (x90 fu).L 0 := Fx.lp (F_R1_OneOf_p0 fu) (F_R1_OneOf_b0 fu) (fun _ => rfl) (fun _ => rfl) (fun r0 => [r0.s]) fun _ d => by kernel_rfl
noncomputable def x90s (fu : Nat) : EI Tryz.prog x90i := (x90 fu).fin (F_R1_OneOf fu) [(x90p0 fu fu).s] Tryz.call52 rfl rfl (by kernel_rfl) fun d d' => by kernel_rfl
/- posthouse/posthouseref1.Blank -/
def x91i : IF := ⟨.fn 38, [.h .byte], [], _, RS.mk (.h .bool) []⟩
noncomputable def x91 : Fx Tryz.prog x91i := fx Tryz.f38 38 Tryz.func38 [] false [] tags0 []
noncomputable def x91s : EI Tryz.prog x91i := x91.fin F_R1_Blank [] Tryz.call38 rfl rfl (by kernel_rfl) fun d d' => by kernel_rfl
/- posthouse/posthouseref1.Trim -/
def x92i : IF := ⟨.fn 53, [.h .str], [], _, RS.mk (.h .str) []⟩
noncomputable def x92 (fu : Nat) : Fx Tryz.prog x92i := fx Tryz.f53 53 Tryz.func53 [x91s.p] false [] tags0 [(pkey [(0, 98), (1, 49), (2, 12), (1, 6), (0, 7)], ⟨30, [(0, .h .str)], [], 64, []⟩), (pkey [(0, 224), (0, 225), (0, 113), (2, 28), (1, 14), (0, 15)], ⟨30, [(0, .h .str)], [], 64, []⟩), (pkey [(0, 97), (0, 49), (2, 12), (1, 6), (0, 7)], ⟨30, [(0, .h .str), (10, .h .bool)], [], 64, []⟩), (pkey [(0, 96), (0, 97), (0, 49), (2, 12), (1, 6), (0, 7)], ⟨30, [(0, .h .str)], [], 64, []⟩)]
noncomputable def x92p2 (fu : Nat) (r0 : (x92 fu).L 3) : (x92 fu).L 0 := Fx.jn (F_R1_Trim_p2 fu r0.f) [r0.s] fun d => by kernel_rfl
noncomputable def x92p3 (fu : Nat) : Nat → (x92 fu).L 1 := Fx.lp (F_R1_Trim_p3 fu) (F_R1_Trim_b3 fu) (fun _ => rfl) (fun _ => rfl) (fun r3 => [r3.s]) fun _ d => by kernel_rfl
noncomputable def x92p1 (fu : Nat) (r0 : (x92 fu).L 3) : (x92 fu).L 2 := Fx.jn (F_R1_Trim_p1 fu r0.f) [(x92p2 fu r0).s, (x92p3 fu fu).s] fun d => by kernel_rfl
noncomputable def x92p0 (fu : Nat) : Nat → (x92 fu).L 3 := Fx.lp (F_R1_Trim_p0 fu) (F_R1_Trim_b0 fu) (fun _ => rfl) (fun _ => rfl) (fun r0 => [(x92p1 fu r0).s]) fun _ d => by kernel_rfl
noncomputable def x92s (fu : Nat) : EI Tryz.prog x92i := (x92 fu).fin (F_R1_Trim fu) [(x92p0 fu fu).s] Tryz.call53 rfl rfl (by kernel_rfl) fun d d' => by kernel_rfl
/- posthouse/posthouseref1.FieldCode -/
def x93i : IF := ⟨.fn 33, [.h .str, .h .str], [], _, RS.mk (.h (.int .i64)) []⟩
noncomputable def x93 (fu : Nat) : Fx Tryz.prog x93i := fx Tryz.f33 33 Tryz.func33 [(x89s fu).p, (x90s fu).p, (x92s fu).p] false [] tags0 [(pkey [(0, 976), (0, 977), (0, 489), (2, 122), (1, 61), (0, 31)], ⟨26, [(1, .h .str), (5, .h (.int .i64))], [], 64, []⟩)]
noncomputable def x93p0 (fu : Nat) : Nat → (x93 fu).L 0 := Fx.lp (F_R1_FieldCode_p0 fu) (F_R1_FieldCode_b0 fu) (fun _ => rfl) (fun _ => rfl) (fun r0 => [r0.s]) fun _ d => by kernel_rfl
noncomputable def x93s (fu : Nat) : EI Tryz.prog x93i := (x93 fu).fin (F_R1_FieldCode fu) [(x93p0 fu fu).s] Tryz.call33 rfl rfl (by kernel_rfl) fun d d' => by kernel_rfl
/- posthouse/posthouseref1.Folded -/
def x94i : IF := ⟨.fn 34, [.h .str, .h .str], [], _, RS.mk (.own 0) [(0, .row .str 9)]⟩
noncomputable def x94 (fu : Nat) : Fx Tryz.prog x94i := fx Tryz.f34 34 Tryz.func34 [x91s.p] false [] tags0 [(pkey [(0, 979), (2, 122), (1, 61), (0, 31)], ⟨87, [(5, .h .str), (6, .own 32), (7, .h (.int .i64))], [(32, .row (.int .i64) 3)], 64, []⟩), (pkey [(0, 3913), (1, 978), (0, 979), (2, 122), (1, 61), (0, 31)], ⟨87, [(5, .h .str), (6, .own 32), (7, .h (.int .i64)), (37, .h .bool)], [(32, .row (.int .i64) 3)], 64, []⟩), (pkey [(0, 520531), (2, 65066), (1, 32533), (0, 16267), (1, 2033), (2, 508), (1, 254), (0, 255)], ⟨87, [(5, .h .str), (6, .own 32), (8, .own 33), (9, .h (.int .i64)), (10, .h (.int .i64)), (11, .h (.int .i64))], [(32, .row (.int .i64) 3), (33, .row .str 9)], 64, []⟩), (pkey [(0, 4164243), (1, 520530), (0, 520531), (2, 65066), (1, 32533), (0, 16267), (1, 2033), (2, 508), (1, 254), (0, 255)], ⟨87, [(5, .h .str), (6, .own 32), (8, .own 33), (9, .h (.int .i64)), (10, .h (.int .i64)), (11, .h (.int .i64)), (12, .h (.int .i64)), (69, .h .bool)], [(32, .row (.int .i64) 3), (33, .row .str 9)], 64, []⟩), (pkey [(0, 520528), (0, 520529), (0, 260265), (2, 65066), (1, 32533), (0, 16267), (1, 2033), (2, 508), (1, 254), (0, 255)], ⟨87, [(5, .h .str), (6, .own 32), (8, .own 33), (9, .h (.int .i64)), (10, .h (.int .i64)), (11, .h (.int .i64))], [(32, .row (.int .i64) 3), (33, .row .str 9)], 64, []⟩), (pkey [(0, 4064), (0, 4065), (0, 2033), (2, 508), (1, 254), (0, 255)], ⟨87, [(5, .h .str), (6, .own 32), (8, .own 33), (9, .h (.int .i64))], [(32, .row (.int .i64) 3), (33, .row .str 9)], 64, []⟩), (pkey [(0, 976), (0, 977), (0, 489), (2, 122), (1, 61), (0, 31)], ⟨87, [(5, .h .str), (6, .own 32), (7, .h (.int .i64))], [(32, .row (.int .i64) 3)], 64, []⟩)]
noncomputable def x94p3 (fu : Nat) (r0 : (x94 fu).L 6) : (x94 fu).L 0 := Fx.jn (F_R1_Folded_p3 fu r0.f) [r0.s] fun d => by kernel_rfl
noncomputable def x94p1 (fu : Nat) (r0 : (x94 fu).L 6) : (x94 fu).L 1 := Fx.jn (F_R1_Folded_p1 fu r0.f) [(x94p3 fu r0).s] fun d => by kernel_rfl
noncomputable def x94p6 (fu : Nat) (r2 : (x94 fu).L 5) (r4 : (x94 fu).L 4) : (x94 fu).L 2 := Fx.jn (F_R1_Folded_p6 fu r2.f r4.f) [r4.s] fun d => by kernel_rfl
noncomputable def x94p5 (fu : Nat) (r2 : (x94 fu).L 5) (r4 : (x94 fu).L 4) : (x94 fu).L 3 := Fx.jn (F_R1_Folded_p5 fu r2.f r4.f) [(x94p6 fu r2 r4).s] fun d => by kernel_rfl
noncomputable def x94p4 (fu : Nat) (r2 : (x94 fu).L 5) : Nat → (x94 fu).L 4 := Fx.lp (F_R1_Folded_p4 fu r2.f) (F_R1_Folded_b4 fu r2.f) (fun _ => rfl) (fun _ => rfl) (fun r4 => [(x94p5 fu r2 r4).s, r2.s]) fun _ d => by kernel_rfl
noncomputable def x94p2 (fu : Nat) : Nat → (x94 fu).L 5 := Fx.lp (F_R1_Folded_p2 fu) (F_R1_Folded_b2 fu) (fun _ => rfl) (fun _ => rfl) (fun r2 => [(x94p4 fu r2 fu).s]) fun _ d => by kernel_rfl
noncomputable def x94p0 (fu : Nat) : Nat → (x94 fu).L 6 := Fx.lp (F_R1_Folded_p0 fu) (F_R1_Folded_b0 fu) (fun _ => rfl) (fun _ => rfl) (fun r0 => [(x94p1 fu r0).s, (x94p2 fu fu).s]) fun _ d => by kernel_rfl
noncomputable def x94s (fu : Nat) : EI Tryz.prog x94i := (x94 fu).fin (F_R1_Folded fu) [(x94p0 fu fu).s] Tryz.call34 rfl rfl (by kernel_rfl) fun d d' => by kernel_rfl
/- posthouse/posthouseref1.FoldFault -/
def x95i : IF := ⟨.fn 20, [.h .str, .h .str], [], _, RS.mk (.h (.prod (.int .i64) (.int .i64))) []⟩
noncomputable def x95 (fu : Nat) : Fx Tryz.prog x95i := fx Tryz.f20 20 Tryz.func20 [(x93s fu).p, x87s.p, (x94s fu).p] false [] tags0 [(pkey [(0, 976), (0, 977), (0, 489), (2, 122), (1, 61), (0, 31)], ⟨33, [(4, .ptr 32 0), (5, .own 33), (6, .h (.int .i64))], [(32, .dat (.prod (.int .i64) (.int .i64)) 27), (33, .row .str 9)], 64, []⟩)]
noncomputable def x95p0 (fu : Nat) : Nat → (x95 fu).L 0 := Fx.lp (F_R1_FoldFault_p0 fu) (F_R1_FoldFault_b0 fu) (fun _ => rfl) (fun _ => rfl) (fun r0 => [r0.s]) fun _ d => by kernel_rfl
noncomputable def x95s (fu : Nat) : EI Tryz.prog x95i := (x95 fu).fin (F_R1_FoldFault fu) [(x95p0 fu fu).s] Tryz.call20 rfl rfl (by kernel_rfl) fun d d' => by kernel_rfl
/- posthouse/posthouseref1.FieldsFault -/
def x96i : IF := ⟨.fn 7, [.h (.list (.prod .str .str))], [], _, RS.mk (.h (.prod (.int .i64) (.int .i64))) []⟩
noncomputable def x96 (fu : Nat) : Fx Tryz.prog x96i := fx Tryz.f7 7 Tryz.func7 [x87s.p, (x95s fu).p] false [] tags0 [(pkey [(0, 464), (0, 465), (0, 233), (2, 58), (1, 29), (0, 15)], ⟨34, [(0, .h (.list (.prod .str .str))), (2, .ptr 32 0), (3, .h (.int .i64))], [(32, .dat (.prod (.int .i64) (.int .i64)) 27)], 64, []⟩)]
noncomputable def x96p0 (fu : Nat) : Nat → (x96 fu).L 0 := Fx.lp (F_R1_FieldsFault_p0 fu) (F_R1_FieldsFault_b0 fu) (fun _ => rfl) (fun _ => rfl) (fun r0 => [r0.s]) fun _ d => by kernel_rfl
noncomputable def x96s (fu : Nat) : EI Tryz.prog x96i := (x96 fu).fin (F_R1_FieldsFault fu) [(x96p0 fu fu).s] Tryz.call7 rfl rfl (by kernel_rfl) fun d d' => by kernel_rfl
/- posthouse/posthouseref1.Lower -/
def x97i : IF := ⟨.fn 35, [.h .str], [], _, RS.mk (.h .str) []⟩
noncomputable def x97 (fu : Nat) : Fx Tryz.prog x97i := fx Tryz.f35 35 Tryz.func35 [x88s.p] false [] tags0 [(pkey [(0, 464), (0, 465), (0, 233), (2, 58), (1, 29), (0, 15)], ⟨29, [(3, .own 32), (4, .h (.int .i64))], [(32, .row .byte 5)], 64, []⟩)]
noncomputable def x97p0 (fu : Nat) : Nat → (x97 fu).L 0 := Fx.lp (F_R1_Lower_p0 fu) (F_R1_Lower_b0 fu) (fun _ => rfl) (fun _ => rfl) (fun r0 => [r0.s]) fun _ d => by kernel_rfl
noncomputable def x97s (fu : Nat) : EI Tryz.prog x97i := (x97 fu).fin (F_R1_Lower fu) [(x97p0 fu fu).s] Tryz.call35 rfl rfl (by kernel_rfl) fun d d' => by kernel_rfl
/- posthouse/posthouseref1.Alike -/
def x98i : IF := ⟨.fn 21, [.h .str, .h .str], [], _, RS.mk (.h .bool) []⟩
noncomputable def x98 (fu : Nat) : Fx Tryz.prog x98i := fx Tryz.f21 21 Tryz.func21 [(x97s fu).p] false [] tags0 []
noncomputable def x98s (fu : Nat) : EI Tryz.prog x98i := (x98 fu).fin (F_R1_Alike fu) [] Tryz.call21 rfl rfl (by kernel_rfl) fun d d' => by kernel_rfl
/- posthouse/posthouseref2.Squeezed -/
def x99i : IF := ⟨.fn 25, [.h .str], [], _, RS.mk (.h .str) []⟩
noncomputable def x99 (fu : Nat) : Fx Tryz.prog x99i := fx Tryz.f25 25 Tryz.func25 [x91s.p] false [] tags0 [(pkey [(0, 467), (2, 58), (1, 29), (0, 15)], ⟨59, [(0, .h .str), (3, .h .str), (4, .h (.int .i64))], [], 64, []⟩), (pkey [(0, 7463), (1, 466), (0, 467), (2, 58), (1, 29), (0, 15)], ⟨59, [(0, .h .str), (3, .h .str), (4, .h (.int .i64)), (40, .h .bool)], [], 64, []⟩), (pkey [(0, 464), (0, 465), (0, 233), (2, 58), (1, 29), (0, 15)], ⟨59, [(0, .h .str), (3, .h .str), (4, .h (.int .i64))], [], 64, []⟩)]
noncomputable def x99p1 (fu : Nat) (r0 : (x99 fu).L 2) : (x99 fu).L 0 := Fx.jn (F_R2_Squeezed_p1 fu r0.f) [r0.s] fun d => by kernel_rfl
noncomputable def x99p2 (fu : Nat) (r0 : (x99 fu).L 2) : (x99 fu).L 1 := Fx.jn (F_R2_Squeezed_p2 fu r0.f) [(x99p1 fu r0).s] fun d => by kernel_rfl
noncomputable def x99p0 (fu : Nat) : Nat → (x99 fu).L 2 := Fx.lp (F_R2_Squeezed_p0 fu) (F_R2_Squeezed_b0 fu) (fun _ => rfl) (fun _ => rfl) (fun r0 => [(x99p1 fu r0).s, (x99p2 fu r0).s]) fun _ d => by kernel_rfl
noncomputable def x99s (fu : Nat) : EI Tryz.prog x99i := (x99 fu).fin (F_R2_Squeezed fu) [(x99p0 fu fu).s] Tryz.call25 rfl rfl (by kernel_rfl) fun d d' => by kernel_rfl
/- posthouse/posthouseref2.FieldForm -/
def x100i : IF := ⟨.fn 22, [.h (.prod .str .str)], [], _, RS.mk (.h .str) []⟩
noncomputable def x100 (fu : Nat) : Fx Tryz.prog x100i := fx Tryz.f22 22 Tryz.func22 [(x97s fu).p, (x99s fu).p] false [] tags0 []
noncomputable def x100s (fu : Nat) : EI Tryz.prog x100i := (x100 fu).fin (F_R2_FieldForm fu) [] Tryz.call22 rfl rfl (by kernel_rfl) fun d d' => by kernel_rfl
/- posthouse/posthouseref2.FieldForms -/
def x101i : IF := ⟨.fn 9, [.h (.list (.prod .str .str)), .h (.list .str)], [], _, RS.mk (.h .str) []⟩
noncomputable def x101 (fu : Nat) : Fx Tryz.prog x101i := fx Tryz.f9 9 Tryz.func9 [(x98s fu).p, (x100s fu).p] false [] tags0 [(pkey [(0, 119379), (2, 14922), (1, 7461), (0, 3731), (1, 466), (0, 467), (2, 58), (1, 29), (0, 15)], ⟨62, [(0, .h (.list (.prod .str .str))), (1, .h (.list .str)), (5, .h .str), (6, .h (.int .i64)), (7, .h (.int .i64)), (8, .h (.int .i64))], [], 64, []⟩), (pkey [(0, 119408), (0, 119409), (0, 59705), (2, 14926), (1, 7463), (1, 466), (0, 467), (2, 58), (1, 29), (0, 15)], ⟨62, [(0, .h (.list (.prod .str .str))), (1, .h (.list .str)), (5, .h .str), (6, .h (.int .i64)), (7, .h (.int .i64)), (9, .h (.int .i64))], [], 64, []⟩), (pkey [(0, 119376), (0, 119377), (0, 59689), (2, 14922), (1, 7461), (0, 3731), (1, 466), (0, 467), (2, 58), (1, 29), (0, 15)], ⟨62, [(0, .h (.list (.prod .str .str))), (1, .h (.list .str)), (5, .h .str), (6, .h (.int .i64)), (7, .h (.int .i64)), (8, .h (.int .i64))], [], 64, []⟩), (pkey [(0, 464), (0, 465), (0, 233), (2, 58), (1, 29), (0, 15)], ⟨62, [(0, .h (.list (.prod .str .str))), (1, .h (.list .str)), (5, .h .str), (6, .h (.int .i64))], [], 64, []⟩)]
noncomputable def x101p3 (fu : Nat) (r0 : (x101 fu).L 3) (r1 : (x101 fu).L 2) : (x101 fu).L 0 := Fx.jn (F_R2_FieldForms_p3 fu r0.f r1.f) [r1.s] fun d => by kernel_rfl
noncomputable def x101p2 (fu : Nat) (r0 : (x101 fu).L 3) : Nat → (x101 fu).L 1 := Fx.lp (F_R2_FieldForms_p2 fu r0.f) (F_R2_FieldForms_b2 fu r0.f) (fun _ => rfl) (fun _ => rfl) (fun r2 => [r2.s, r0.s]) fun _ d => by kernel_rfl
noncomputable def x101p1 (fu : Nat) (r0 : (x101 fu).L 3) : Nat → (x101 fu).L 2 := Fx.lp (F_R2_FieldForms_p1 fu r0.f) (F_R2_FieldForms_b1 fu r0.f) (fun _ => rfl) (fun _ => rfl) (fun r1 => [(x101p3 fu r0 r1).s, (x101p2 fu r0 fu).s]) fun _ d => by kernel_rfl
noncomputable def x101p0 (fu : Nat) : Nat → (x101 fu).L 3 := Fx.lp (F_R2_FieldForms_p0 fu) (F_R2_FieldForms_b0 fu) (fun _ => rfl) (fun _ => rfl) (fun r0 => [(x101p1 fu r0 fu).s]) fun _ d => by kernel_rfl
noncomputable def x101s (fu : Nat) : EI Tryz.prog x101i := (x101 fu).fin (F_R2_FieldForms fu) [(x101p0 fu fu).s] Tryz.call9 rfl rfl (by kernel_rfl) fun d d' => by kernel_rfl
/- posthouse/posthouselaw2.CanonicalFieldsMatchesSpec -/
def x102i : IF := ⟨.fn 3, [.h (.list (.prod .str .str)), .h (.list .str)], [], _, RS.mk (.h .bool) []⟩
noncomputable def x102 (fu : Nat) : Fx Tryz.prog x102i := fx Tryz.f3 3 Tryz.func3 [(x86s fu).p, (x28s fu).p, (x96s fu).p, x87s.p, (x101s fu).p] false [] tags0 [(pkey [(0, 252), (0, 253), (0, 127)], ⟨49, [(0, .h (.list (.prod .str .str))), (1, .h (.list .str)), (5, .own 32), (6, .ptr 33 0), (7, .ptr 34 0)], [(32, .row .byte 5), (33, .dat (.prod (.int .i64) (.int .i64)) 27), (34, .dat (.prod (.int .i64) (.int .i64)) 27)], 64, []⟩), (pkey [(0, 125), (0, 63)], ⟨49, [(0, .h (.list (.prod .str .str))), (1, .h (.list .str)), (5, .own 32), (6, .ptr 33 0), (7, .ptr 34 0), (25, .h .bool)], [(32, .row .byte 5), (33, .dat (.prod (.int .i64) (.int .i64)) 27), (34, .dat (.prod (.int .i64) (.int .i64)) 27)], 64, []⟩)]
noncomputable def x102p1 (fu : Nat) : (x102 fu).L 0 := Fx.jn (F_W2_CanonicalFieldsMatchesSpec_p1 fu) [] fun d => by kernel_rfl
noncomputable def x102p0 (fu : Nat) : (x102 fu).L 1 := Fx.jn (F_W2_CanonicalFieldsMatchesSpec_p0 fu) [(x102p1 fu).s] fun d => by kernel_rfl
noncomputable def x102s (fu : Nat) : EI Tryz.prog x102i := (x102 fu).fin (F_W2_CanonicalFieldsMatchesSpec fu) [(x102p0 fu).s] Tryz.call3 rfl rfl (by kernel_rfl) fun d d' => by kernel_rfl
theorem F_W2_CanonicalFieldsMatchesSpec_ok (fu : Nat) : (x102i.e (F_W2_CanonicalFieldsMatchesSpec fu)).Sound Tryz.prog := (x102s fu).h
/- posthouse/posthouseref1.Crlf -/
def x103i : IF := ⟨.fn 24, [.h (.list .byte), .h (.int .i64)], [], _, RS.mk (.h .bool) []⟩
noncomputable def x103 : Fx Tryz.prog x103i := fx Tryz.f24 24 Tryz.func24 [] false [] tags0 []
noncomputable def x103s : EI Tryz.prog x103i := x103.fin F_R1_Crlf [] Tryz.call24 rfl rfl (by kernel_rfl) fun d d' => by kernel_rfl
/- posthouse/posthouseref2.BodyForm -/
def x104i : IF := ⟨.fn 11, [.h (.list .byte)], [], _, RS.mk (.h .str) []⟩
noncomputable def x104 (fu : Nat) : Fx Tryz.prog x104i := fx Tryz.f11 11 Tryz.func11 [x103s.p, (x99s fu).p] false [] tags0 [(pkey [(0, 62626), (1, 31313), (2, 7828), (1, 3914), (0, 3915), (1, 489), (2, 122), (1, 61), (0, 31)], ⟨52, [(0, .h (.list .byte)), (3, .h .str), (4, .h (.int .i64)), (5, .h (.int .i64)), (6, .h (.int .i64))], [], 64, []⟩), (pkey [(0, 2004832), (0, 2004833), (0, 1002417), (2, 250604), (1, 125302), (0, 125303), (0, 15663), (1, 489), (2, 122), (1, 61), (0, 31)], ⟨52, [(0, .h (.list .byte)), (3, .h .str), (4, .h (.int .i64)), (6, .h (.int .i64)), (7, .h .str)], [], 64, []⟩), (pkey [(0, 62625), (0, 31313), (2, 7828), (1, 3914), (0, 3915), (1, 489), (2, 122), (1, 61), (0, 31)], ⟨52, [(0, .h (.list .byte)), (3, .h .str), (4, .h (.int .i64)), (5, .h (.int .i64)), (6, .h (.int .i64)), (22, .h .bool)], [], 64, []⟩), (pkey [(0, 62624), (0, 62625), (0, 31313), (2, 7828), (1, 3914), (0, 3915), (1, 489), (2, 122), (1, 61), (0, 31)], ⟨52, [(0, .h (.list .byte)), (3, .h .str), (4, .h (.int .i64)), (5, .h (.int .i64)), (6, .h (.int .i64))], [], 64, []⟩), (pkey [(0, 976), (0, 977), (0, 489), (2, 122), (1, 61), (0, 31)], ⟨52, [(0, .h (.list .byte)), (3, .h .str), (4, .h (.int .i64)), (5, .h (.int .i64))], [], 64, []⟩)]
noncomputable def x104p3 (fu : Nat) (r0 : (x104 fu).L 4) (r1 : (x104 fu).L 3) : (x104 fu).L 0 := Fx.jn (F_R2_BodyForm_p3 fu r0.f r1.f) [r1.s] fun d => by kernel_rfl
noncomputable def x104p4 (fu : Nat) (r0 : (x104 fu).L 4) : Nat → (x104 fu).L 1 := Fx.lp (F_R2_BodyForm_p4 fu r0.f) (F_R2_BodyForm_b4 fu r0.f) (fun _ => rfl) (fun _ => rfl) (fun r4 => [r4.s, r0.s]) fun _ d => by kernel_rfl
noncomputable def x104p2 (fu : Nat) (r0 : (x104 fu).L 4) (r1 : (x104 fu).L 3) : (x104 fu).L 2 := Fx.jn (F_R2_BodyForm_p2 fu r0.f r1.f) [(x104p3 fu r0 r1).s, r0.s, (x104p4 fu r0 fu).s] fun d => by kernel_rfl
noncomputable def x104p1 (fu : Nat) (r0 : (x104 fu).L 4) : Nat → (x104 fu).L 3 := Fx.lp (F_R2_BodyForm_p1 fu r0.f) (F_R2_BodyForm_b1 fu r0.f) (fun _ => rfl) (fun _ => rfl) (fun r1 => [(x104p2 fu r0 r1).s]) fun _ d => by kernel_rfl
noncomputable def x104p0 (fu : Nat) : Nat → (x104 fu).L 4 := Fx.lp (F_R2_BodyForm_p0 fu) (F_R2_BodyForm_b0 fu) (fun _ => rfl) (fun _ => rfl) (fun r0 => [(x104p1 fu r0 fu).s]) fun _ d => by kernel_rfl
noncomputable def x104s (fu : Nat) : EI Tryz.prog x104i := (x104 fu).fin (F_R2_BodyForm fu) [(x104p0 fu fu).s] Tryz.call11 rfl rfl (by kernel_rfl) fun d d' => by kernel_rfl
/- posthouse/posthouseref1.Bytes -/
def x105i : IF := ⟨.fn 12, [.h (.list .byte), .h (.list .byte)], [], _, RS.mk (.h .bool) []⟩
noncomputable def x105 : Fx Tryz.prog x105i := fx Tryz.f12 12 Tryz.func12 [] false [] tags0 []
noncomputable def x105s : EI Tryz.prog x105i := x105.fin F_R1_Bytes [] Tryz.call12 rfl rfl (by kernel_rfl) fun d d' => by kernel_rfl
/- posthouse/posthouselaw2.CanonicalBodyMatchesSpec -/
def x106i : IF := ⟨.fn 4, [.h (.list .byte)], [], _, RS.mk (.h .bool) []⟩
noncomputable def x106 (fu : Nat) : Fx Tryz.prog x106i := fx Tryz.f4 4 Tryz.func4 [(x86s fu).p, (x36s fu).p, x87s.p, (x104s fu).p, x105s.p] false [] tags0 [(pkey [(0, 126), (0, 127)], ⟨63, [(3, .own 32)], [(32, .row .byte 5)], 64, []⟩), (pkey [(0, 125), (0, 63)], ⟨63, [(0, .h (.list .byte)), (3, .own 32), (4, .ptr 33 0), (39, .h .bool)], [(32, .row .byte 5), (33, .dat (.prod (.int .i64) (.int .i64)) 27)], 64, []⟩)]
noncomputable def x106p1 (fu : Nat) : (x106 fu).L 0 := Fx.jn (F_W2_CanonicalBodyMatchesSpec_p1 fu) [] fun d => by kernel_rfl
noncomputable def x106p0 (fu : Nat) : (x106 fu).L 1 := Fx.jn (F_W2_CanonicalBodyMatchesSpec_p0 fu) [(x106p1 fu).s] fun d => by kernel_rfl
noncomputable def x106s (fu : Nat) : EI Tryz.prog x106i := (x106 fu).fin (F_W2_CanonicalBodyMatchesSpec fu) [(x106p0 fu).s] Tryz.call4 rfl rfl (by kernel_rfl) fun d d' => by kernel_rfl
theorem F_W2_CanonicalBodyMatchesSpec_ok (fu : Nat) : (x106i.e (F_W2_CanonicalBodyMatchesSpec fu)).Sound Tryz.prog := (x106s fu).h
end Go.Sym
/- The functions of this seat. -/
/- Words for proofs about plain functions. -/
namespace Go.Sym

theorem w64_eq {x : Int} (h1 : -9223372036854775808 ≤ x) (h2 : x < 9223372036854775808) : w64 x = x := by
  unfold w64 IntKind.wrap
  simp [IntKind.signed, IntKind.bits]
  omega
theorem bif_t {α : Type} {b : Bool} {x y : α} (h : b = true) : (bif b then x else y) = x := by subst h; rfl
theorem bif_f {α : Type} {b : Bool} {x y : α} (h : b = false) : (bif b then x else y) = y := by subst h; rfl
theorem bif_d {α : Type} {p : Prop} [Decidable p] {x y : α} : (bif decide p then x else y) = if p then x else y := by by_cases h : p <;> simp [h]
theorem bif_dt {α : Type} {p : Prop} [Decidable p] {x y : α} (h : p) : (bif decide p then x else y) = x := bif_t (decide_eq_true h)
theorem bif_df {α : Type} {p : Prop} [Decidable p] {x y : α} (h : ¬ p) : (bif decide p then x else y) = y := bif_f (decide_eq_false h)
theorem bif_nd {α : Type} {p : Prop} [Decidable p] {x y : α} : (bif !decide p then x else y) = if p then y else x := by by_cases h : p <;> simp [h]
theorem bif_nb {α : Type} {b : Bool} {x y : α} : (bif !b then x else y) = if b = false then x else y := by cases b <;> rfl
theorem bif_bt {α : Type} {b : Bool} {x y : α} : (bif b then x else y) = if b = true then x else y := by cases b <;> rfl
theorem bif_ne {α : Type} {a b : Int} {x y : α} : (bif a != b then x else y) = if a ≠ b then x else y := by
  by_cases h : a = b
  · rw [bif_f (by simp [h]), if_neg (by simp [h])]
  · rw [bif_t (by simp [h]), if_pos h]
theorem bif_eq {α : Type} {a b : Int} {x y : α} : (bif a == b then x else y) = if a = b then x else y := by
  by_cases h : a = b
  · rw [bif_t (by simp [h]), if_pos h]
  · rw [bif_f (by simp [h]), if_neg h]
theorem bif_eq8 {α : Type} {a b : UInt8} {x y : α} : (bif a == b then x else y) = if a = b then x else y := by
  by_cases h : a = b
  · rw [bif_t (by simp [h]), if_pos h]
  · rw [bif_f (by simp [h]), if_neg h]
theorem bif_ne8 {α : Type} {a b : UInt8} {x y : α} : (bif a != b then x else y) = if a ≠ b then x else y := by
  by_cases h : a = b
  · rw [bif_f (by simp [h]), if_neg (by simp [h])]
  · rw [bif_t (by simp [h]), if_pos h]
theorem some_ite {α : Type} {p : Prop} [Decidable p] {x y : α} : (if p then some x else some y) = some (if p then x else y) := by split <;> rfl
theorem rowidx {α β : Type} (l : List α) (i : Int) (f : α → Option β) : (bif decide (0 ≤ i ∧ i.toNat < List.length l) then (l[i.toNat]?).bind f else none) = (idx l i).bind f := by
  unfold idx
  by_cases h : 0 ≤ i
  · by_cases h2 : i.toNat < l.length
    · simp [h, h2]
    · simp [h, h2]
  · simp [h]
theorem idx_nat {α : Type} (l : List α) (k : Nat) (h : k < l.length) : idx l (k : Int) = some l[k] := by
  unfold idx; rw [if_pos (by omega)]; simp [h]
theorem idx_mid {α : Type} (pre : List α) (c : α) (suf : List α) : idx (pre ++ c :: suf) (pre.length : Int) = some c := by
  unfold idx; rw [if_pos (by omega)]; simp
theorem get_mid {α : Type} (pre : List α) (c : α) (suf : List α) : (pre ++ c :: suf)[((pre.length : Nat) : Int).toNat]? = some c := by simp
theorem set_mid {α : Type} (pre : List α) (c d : α) (suf : List α) : List.set (pre ++ c :: suf) ((pre.length : Nat) : Int).toNat d = pre ++ d :: suf := by simp
theorem nx_nat (k : Nat) (h : k < 9223372036854775807) : w64 ((k : Int) + 1) = ((k + 1 : Nat) : Int) := by rw [w64_eq (by omega) (by omega)]; omega
end Go.Sym
