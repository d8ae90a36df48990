/- What the claim rests on, part 5: gathered texts. -/
import Derived.Shelf.LaysC
import Derived.Shelf.LaysM
import Derived.Shelf.SlGeneric
import Derived.Ground.NamesProg
import Derived.Test.YtfmacibdajfkmaaGreatDoorProg
import Derived.Below
import Derived.Tactics
import Derived.Tactics2
import Derived.Laws.AppendOwn
import Derived.Shelf.Strconv.Itoa4
import Derived.Shelf.Bytes.SlIndexWhole
import Derived.Shelf.SlicesE.Clone
import Derived.Shelf.Strings.Replace
import Derived.Test.YtfmacibdajfkmaaGreatDoorSyA4
/- Plain functions that the Go functions compute: printed by a program out of the translation. -/
namespace Go.Sym
set_option linter.unusedVariables false
def tab0 : List UInt8 := [240, 240, 240, 240, 240, 240, 240, 240, 240, 240, 240, 240, 240, 240, 240, 240, 240, 240, 240, 240, 240, 240, 240, 240, 240, 240, 240, 240, 240, 240, 240, 240, 240, 240, 240, 240, 240, 240, 240, 240, 240, 240, 240, 240, 240, 240, 240, 240, 240, 240, 240, 240, 240, 240, 240, 240, 240, 240, 240, 240, 240, 240, 240, 240, 240, 240, 240, 240, 240, 240, 240, 240, 240, 240, 240, 240, 240, 240, 240, 240, 240, 240, 240, 240, 240, 240, 240, 240, 240, 240, 240, 240, 240, 240, 240, 240, 240, 240, 240, 240, 240, 240, 240, 240, 240, 240, 240, 240, 240, 240, 240, 240, 240, 240, 240, 240, 240, 240, 240, 240, 240, 240, 240, 240, 240, 240, 240, 240, 241, 241, 241, 241, 241, 241, 241, 241, 241, 241, 241, 241, 241, 241, 241, 241, 241, 241, 241, 241, 241, 241, 241, 241, 241, 241, 241, 241, 241, 241, 241, 241, 241, 241, 241, 241, 241, 241, 241, 241, 241, 241, 241, 241, 241, 241, 241, 241, 241, 241, 241, 241, 241, 241, 241, 241, 241, 241, 241, 241, 241, 241, 241, 241, 241, 241, 2, 2, 2, 2, 2, 2, 2, 2, 2, 2, 2, 2, 2, 2, 2, 2, 2, 2, 2, 2, 2, 2, 2, 2, 2, 2, 2, 2, 2, 2, 19, 3, 3, 3, 3, 3, 3, 3, 3, 3, 3, 3, 3, 35, 3, 3, 52, 4, 4, 4, 68, 241, 241, 241, 241, 241, 241, 241, 241, 241, 241, 241]
def tab1 : List (UInt8 × UInt8) := [(128, 191), (160, 191), (128, 159), (144, 191), (128, 143), (0, 0), (0, 0), (0, 0), (0, 0), (0, 0), (0, 0), (0, 0), (0, 0), (0, 0), (0, 0), (0, 0)]
/- posthouse/parts.each -/
abbrev R_parts_each : Type := (Tree ((List (Bs × Bs)) × Bs))
def F_parts_each (p0 : Tree ((List (Bs × Bs)) × Bs)) : Option R_parts_each := some (Tree.node p0.val p0.kids)
/- posthouse/basic.Fault -/
def F_basic_Fault (p0 : Int) (p1 : Int) : Option ((Int × Int)) := some (p0, p1)
/- posthouse/parts.Validate (a round) -/
abbrev R_parts_Validate_r0 : Type := ((Int × Int) × Bool) ⊕ ((Int × Int) × Bool)
def F_parts_Validate_r0 (p0 : Int) (p1 : List (Bs × Bs)) (p2 : Bs) (p3 : List (Tree ((List (Bs × Bs)) × Bs))) (p4 : Int) (p5 : Int × Int) (p6 : Bool) : Option R_parts_Validate_r0 := bif decide ((40 : Int) ≤ p0) then (F_basic_Fault (2 : Int) (-1 : Int)).bind fun x1 => some (.inl (x1, p6)) else bif p6 then some (.inr (p5, true)) else some (.inr (p5, decide ((8 : Int) < p4)))
/- posthouse/parts.each$1$1 -/
abbrev R_parts_each_1_1 : Type := (Int × (Int × Int) × Bool) ⊕ (Int × (Int × Int) × Bool)
abbrev x3T : Type := (Tree ((List (Bs × Bs)) × Bs)) → Int → Int → (Int × Int) → Bool → Option R_parts_each_1_1
abbrev x3t0 : Type := Int → (List (Tree ((List (Bs × Bs)) × Bs))) → Int → Int → Int → (Int × Int) → Bool → Option R_parts_each_1_1
def F_parts_each_1_1_b0 (rs7 : x3T) (fu : Nat) (r0 : x3t0) : x3t0 := fun s1 s20 s21 s22 m1 m4 m5 => bif decide (s22 < s21) then (idx s20 s22).bind fun y1 => (rs7 (Tree.node y1.val y1.kids) (w64 (s1 + (1 : Int))) m1 m4 m5).bind fun x2 => sumK x2 (fun a3 => some (.inl a3)) (fun b4 => r0 s1 s20 s21 (w64 (s22 + (1 : Int))) b4.1 b4.2.1 b4.2.2) else some (.inr (m1, (m4, m5)))
def F_parts_each_1_1_p0 (rs7 : x3T) (fu : Nat) : Nat → x3t0 | 0 => fun _ _ _ _ _ _ _ => none | n + 1 => F_parts_each_1_1_b0 rs7 fu (F_parts_each_1_1_p0 rs7 fu n)
def F_parts_each_1_1_b (rs7 : x3T) (fu : Nat) (p0 : Tree ((List (Bs × Bs)) × Bs)) (p1 : Int) (p2 : Int) (p3 : Int × Int) (p4 : Bool) : Option R_parts_each_1_1 := (F_parts_Validate_r0 p2 p0.val.1 p0.val.2 p0.kids p1 p3 p4).bind fun x1 => sumK x1 (fun a2 => some (.inl (p2, a2))) (fun b3 => F_parts_each_1_1_p0 rs7 fu fu p1 p0.kids (List.length p0.kids : Int) (0 : Int) (w64 (p2 + (1 : Int))) b3.1 b3.2)
def F_parts_each_1_1_n (fu : Nat) : Nat → x3T | 0 => fun _ _ _ _ _ => none | n + 1 => F_parts_each_1_1_b (F_parts_each_1_1_n fu n) fu
def F_parts_each_1_1 (fu : Nat) (p0 : Tree ((List (Bs × Bs)) × Bs)) (p1 : Int) (p2 : Int) (p3 : Int × Int) (p4 : Bool) : Option R_parts_each_1_1 := F_parts_each_1_1_n fu fu p0 p1 p2 p3 p4
/- posthouse/parts.each$1 -/
abbrev R_parts_each_1 : Type := ((Tree ((List (Bs × Bs)) × Bs)) × (Int × Int) × Bool) ⊕ ((Tree ((List (Bs × Bs)) × Bs)) × (Int × Int) × Bool)
def F_parts_each_1 (fu : Nat) (p0 : Tree ((List (Bs × Bs)) × Bs)) (p1 : Int × Int) (p2 : Bool) : Option R_parts_each_1 := (F_parts_each_1_1 fu (Tree.node p0.val p0.kids) (0 : Int) (0 : Int) p1 p2).bind fun x1 => sumK x1 (fun a2 => some (.inl ((Tree.node p0.val p0.kids), a2.2))) (fun b3 => some (.inr ((Tree.node p0.val p0.kids), b3.2)))
/- posthouse/fold.name$1 -/
def F_fold_name_1 (p0 : UInt8) : Option Bool := bif decide ((33 : UInt8) ≤ p0) then bif decide (p0 ≤ (126 : UInt8)) then some (p0 != (58 : UInt8)) else some false else some false
/- posthouse/basic.All -/
abbrev x6t0 : Type := Bs → Int → Int → Option Bool
def F_basic_All_b0 (fu : Nat) (r0 : x6t0) : x6t0 := fun s0 s7 s8 => bif decide (s8 < s7) then (idx s0 s8).bind fun c1 => (F_fold_name_1 c1).bind fun x2 => bif !x2 then some false else r0 s0 s7 (w64 (s8 + (1 : Int))) else some true
def F_basic_All_p0 (fu : Nat) : Nat → x6t0 | 0 => fun _ _ _ => none | n + 1 => F_basic_All_b0 fu (F_basic_All_p0 fu n)
def F_basic_All (fu : Nat) (p0 : Bs) : Option Bool := F_basic_All_p0 fu fu p0 (List.length p0 : Int) (0 : Int)
/- posthouse/fold.name -/
def F_fold_name (fu : Nat) (p0 : Bs) : Option Bool := bif !(p0 == ([] : Bs)) then bif decide ((List.length p0 : Int) ≤ (60 : Int)) then (F_basic_All fu p0).bind fun x1 => some x1 else some false else some false
/- strings.shouldUseASCIISet -/
def F_strings_shouldUseASCIISet (p0 : Int) : Option Bool := some (decide ((8 : Int) < p0))
/- strings.makeASCIISet -/
abbrev x9t0 : Type := Bs → Int → (List Bool) → Option ((List Bool) × Bool)
def F_strings_makeASCIISet_b0 (fu : Nat) (r0 : x9t0) : x9t0 := fun s0 s4 m32 => bif decide (s4 < (List.length s0 : Int)) then (idx s0 s4).bind fun c1 => bif decide ((128 : UInt8) ≤ c1) then bif decide (List.length m32 = 256) then bif decide (List.length m32 = List.length m32) && decide (List.length m32 = 256) then bif decide (List.length m32 = 256) && (true && true) then some (m32, false) else none else none else none else (m32[c1.toNat]?).bind fun y2 => r0 s0 (w64 (s4 + (1 : Int))) (List.set m32 c1.toNat true) else bif decide (List.length m32 = 256) then bif decide (List.length m32 = List.length m32) && decide (List.length m32 = 256) then bif decide (List.length m32 = 256) && (true && true) then some (m32, true) else none else none else none
def F_strings_makeASCIISet_p0 (fu : Nat) : Nat → x9t0 | 0 => fun _ _ _ => none | n + 1 => F_strings_makeASCIISet_b0 fu (F_strings_makeASCIISet_p0 fu n)
def F_strings_makeASCIISet (fu : Nat) (p0 : Bs) : Option ((List Bool) × Bool) := F_strings_makeASCIISet_p0 fu fu p0 (0 : Int) (List.replicate 256 false)
/- internal/stringslite.IndexByte -/
def F_internal_stringslite_IndexByte (p0 : Bs) (p1 : UInt8) : Option Int := (F_bytealg_IndexByte p0 p1).bind fun x1 => some x1
/- strings.IndexByte -/
def F_strings_IndexByte (p0 : Bs) (p1 : UInt8) : Option Int := (F_internal_stringslite_IndexByte p0 p1).bind fun x1 => some x1
/- unicode/utf8.ValidRune -/
def F_unicode_utf8_ValidRune (p0 : Int) : Option Bool := bif decide ((0 : Int) ≤ p0) then bif decide (p0 < (55296 : Int)) then some true else bif decide ((57343 : Int) < p0) then bif decide (p0 ≤ (1114111 : Int)) then some true else some false else some false else bif decide ((57343 : Int) < p0) then bif decide (p0 ≤ (1114111 : Int)) then some true else some false else some false
/- strings.IndexRune -/
abbrev x13t1 : Type := Bs → Nat → Option Int
abbrev x13t4 : Type := Bs → Bs → Int → Int → Int → Option Int
abbrev x13t3 : Type := Bs → Bs → Int → Int → Option Int
abbrev x13t2 : Type := Bs → Bs → Int → Int → Option Int
abbrev x13t0 : Type := Bs → Int → Bool → Option Int
def F_strings_IndexRune_b1 (fu : Nat) (r1 : x13t1) : x13t1 := fun m32_0 m32_1 => bif Nat.blt m32_1 (List.length m32_0) then bif (((rdec m32_0 m32_1).1 : Nat) : Int) == (65533 : Int) then some ((m32_1 : Nat) : Int) else r1 m32_0 (m32_1 + (rdec m32_0 m32_1).2) else some (-1 : Int)
def F_strings_IndexRune_p1 (fu : Nat) : Nat → x13t1 | 0 => fun _ _ => none | n + 1 => F_strings_IndexRune_b1 fu (F_strings_IndexRune_p1 fu n)
def F_strings_IndexRune_b4 (fu : Nat) (r2 : x13t2) (r4 : x13t4) : x13t4 := fun s0 s7 s8 s9 s12 => bif decide (s12 < (List.length s7 : Int)) then (idx s0 (w64 (s9 - s12))).bind fun c1 => (idx s7 (w64 (s8 - s12))).bind fun c2 => bif c1 != c2 then none else r4 s0 s7 s8 s9 (w64 (s12 + (1 : Int))) else some (w64 (s9 - s8))
def F_strings_IndexRune_p4 (fu : Nat) (r2 : x13t2) : Nat → x13t4 | 0 => fun _ _ _ _ _ => none | n + 1 => F_strings_IndexRune_b4 fu r2 (F_strings_IndexRune_p4 fu r2 n)
def F_strings_IndexRune_p3 (fu : Nat) (r2 : x13t2) : x13t3 := fun s0 s7 s8 s9 => F_strings_IndexRune_p4 fu r2 fu s0 s7 s8 s9 (1 : Int)
def F_strings_IndexRune_b2 (fu : Nat) (r2 : x13t2) : x13t2 := fun s0 s7 s8 s9 => bif decide (s9 < (List.length s0 : Int)) then (idx s0 s9).bind fun c1 => (idx s7 s8).bind fun c2 => bif c1 != c2 then bif decide (0 ≤ w64 (s9 + (1 : Int)) ∧ w64 (s9 + (1 : Int)) ≤ (List.length s0 : Int)) then (idx s7 s8).bind fun c3 => (F_strings_IndexByte (List.drop (w64 (s9 + (1 : Int))).toNat s0) c3).bind fun x4 => bif decide (x4 < (0 : Int)) then some (-1 : Int) else F_strings_IndexRune_p3 fu r2 s0 s7 s8 (w64 (s9 + (w64 (x4 + (1 : Int))))) else none else F_strings_IndexRune_p3 fu r2 s0 s7 s8 s9 else some (-1 : Int)
def F_strings_IndexRune_p2 (fu : Nat) : Nat → x13t2 | 0 => fun _ _ _ _ => none | n + 1 => F_strings_IndexRune_b2 fu (F_strings_IndexRune_p2 fu n)
def F_strings_IndexRune_p0 (fu : Nat) : x13t0 := fun s0 s1 s160 => bif s160 then (F_strings_IndexByte s0 (toU8 s1)).bind fun x1 => some x1 else bif s1 == (65533 : Int) then F_strings_IndexRune_p1 fu fu s0 0 else (F_unicode_utf8_ValidRune s1).bind fun x2 => bif !x2 then some (-1 : Int) else F_strings_IndexRune_p2 fu fu s0 (renc s1) (w64 ((List.length (renc s1) : Int) - (1 : Int))) (w64 ((List.length (renc s1) : Int) - (1 : Int)))
def F_strings_IndexRune (fu : Nat) (p0 : Bs) (p1 : Int) : Option Int := bif decide ((0 : Int) ≤ p1) then F_strings_IndexRune_p0 fu p0 p1 (decide (p1 < (128 : Int))) else F_strings_IndexRune_p0 fu p0 p1 false
/- (*strings.asciiSet).contains -/
def F_strings_asciiSet_contains (p0 : UInt8) (p1 : List Bool) : Option (Bool × (List Bool)) := (p1[p0.toNat]?).bind fun y1 => some (y1, p1)
/- strings.IndexAny -/
abbrev x15t0 : Type := Bs → Int → Option Int
abbrev x15t1 : Type := Bs → Int → (List Bool) → Option Int
abbrev x15t3 : Type := Bs → Bs → Nat → Option Int
abbrev x15t2 : Type := Bs → Bs → Option Int
def F_strings_IndexAny_p0 (fu : Nat) : x15t0 := fun s0 s5 => (F_strings_IndexRune fu s0 s5).bind fun x1 => some x1
def F_strings_IndexAny_b1 (fu : Nat) (r1 : x15t1) : x15t1 := fun s0 s8 m32 => bif decide (s8 < (List.length s0 : Int)) then (idx s0 s8).bind fun c1 => (F_strings_asciiSet_contains c1 m32).bind fun x2 => bif x2.1 then some s8 else r1 s0 (w64 (s8 + (1 : Int))) x2.2 else some (-1 : Int)
def F_strings_IndexAny_p1 (fu : Nat) : Nat → x15t1 | 0 => fun _ _ _ => none | n + 1 => F_strings_IndexAny_b1 fu (F_strings_IndexAny_p1 fu n)
def F_strings_IndexAny_b3 (fu : Nat) (r3 : x15t3) : x15t3 := fun s1 m32_0 m32_1 => bif Nat.blt m32_1 (List.length m32_0) then (F_strings_IndexRune fu s1 (((rdec m32_0 m32_1).1 : Nat) : Int)).bind fun x1 => bif decide ((0 : Int) ≤ x1) then some ((m32_1 : Nat) : Int) else r3 s1 m32_0 (m32_1 + (rdec m32_0 m32_1).2) else some (-1 : Int)
def F_strings_IndexAny_p3 (fu : Nat) : Nat → x15t3 | 0 => fun _ _ _ => none | n + 1 => F_strings_IndexAny_b3 fu (F_strings_IndexAny_p3 fu n)
def F_strings_IndexAny_p2 (fu : Nat) : x15t2 := fun s0 s1 => F_strings_IndexAny_p3 fu fu s1 s0 0
def F_strings_IndexAny (fu : Nat) (p0 : Bs) (p1 : Bs) : Option Int := bif p1 == ([] : Bs) then some (-1 : Int) else bif (List.length p1 : Int) == (1 : Int) then (idx p1 (0 : Int)).bind fun c1 => bif decide ((128 : Int) ≤ (c1.toNat : Int)) then F_strings_IndexAny_p0 fu p0 (65533 : Int) else F_strings_IndexAny_p0 fu p0 (c1.toNat : Int) else (F_strings_shouldUseASCIISet (List.length p0 : Int)).bind fun x2 => bif x2 then (F_strings_makeASCIISet fu p1).bind fun x3 => bif decide (List.length x3.1 = List.length (List.replicate 256 false)) && decide (List.length x3.1 = 256) then bif x3.2 then F_strings_IndexAny_p1 fu fu p0 (0 : Int) x3.1 else F_strings_IndexAny_p2 fu p0 p1 else none else F_strings_IndexAny_p2 fu p0 p1
/- strings.ContainsAny -/
def F_strings_ContainsAny (fu : Nat) (p0 : Bs) (p1 : Bs) : Option Bool := (F_strings_IndexAny fu p0 p1).bind fun x1 => some (decide ((0 : Int) ≤ x1))
/- posthouse/fold.ends -/
def F_fold_ends (fu : Nat) (p0 : Bs) : Option Bool := (F_strings_ContainsAny fu p0 ([13, 10, 0] : Bs)).bind fun x1 => some x1
/- posthouse/basic.Blank -/
def F_basic_Blank (p0 : UInt8) : Option Bool := bif p0 == (32 : UInt8) then some true else some (p0 == (9 : UInt8))
/- posthouse/fold.value -/
def F_fold_value (fu : Nat) (p0 : Bs) : Option Bool := (F_fold_ends fu p0).bind fun x1 => bif !x1 then bif p0 == ([] : Bs) then some true else (idx p0 (0 : Int)).bind fun c2 => (F_basic_Blank c2).bind fun x3 => bif !x3 then (idx p0 (w64 ((List.length p0 : Int) - (1 : Int)))).bind fun c4 => (F_basic_Blank c4).bind fun x5 => some (!x5) else some false else some false
/- posthouse/fold.point -/
abbrev x20t1 : Type := Bs → Int → Int → Bool → Option Int
abbrev x20t0 : Type := Bs → Int → Int → Option Int
def F_fold_point_p1 (fu : Nat) (r0 : x20t0) : x20t1 := fun s0 s5 s6 s26 => bif s26 then r0 s0 s5 (w64 (s6 + (1 : Int))) else bif decide ((0 : Int) < s5) then bif decide ((78 : Int) < s6) then some s5 else r0 s0 s6 (w64 (s6 + (1 : Int))) else r0 s0 s6 (w64 (s6 + (1 : Int)))
def F_fold_point_b0 (fu : Nat) (r0 : x20t0) : x20t0 := fun s0 s5 s6 => bif decide (s6 < (List.length s0 : Int)) then (idx s0 s6).bind fun c1 => (F_basic_Blank c1).bind fun x2 => bif !x2 then F_fold_point_p1 fu r0 s0 s5 s6 true else (idx s0 (w64 (s6 - (1 : Int)))).bind fun c3 => (F_basic_Blank c3).bind fun x4 => F_fold_point_p1 fu r0 s0 s5 s6 x4 else some s5
def F_fold_point_p0 (fu : Nat) : Nat → x20t0 | 0 => fun _ _ _ => none | n + 1 => F_fold_point_b0 fu (F_fold_point_p0 fu n)
def F_fold_point (fu : Nat) (p0 : Bs) (p1 : Int) : Option Int := F_fold_point_p0 fu fu p0 (0 : Int) (if (1 : Int) > p1 then (1 : Int) else p1)
/- posthouse/basic.None -/
def F_basic_None : Option ((Int × Int)) := some ((0 : Int), (0 : Int))
/- posthouse/fold.Fold -/
abbrev x22t2 : Type := Int → Int → (Int × Int) → (List Bs) → Option ((Int × Int) × (List Bs))
abbrev x22t1 : Type := Bs → (Int × Int) → (List Bs) → Option ((Int × Int) × (List Bs))
abbrev x22t0 : Type := Bs → Int → (Int × Int) → (List Bs) → Option ((Int × Int) × (List Bs))
def F_fold_Fold_b2 (fu : Nat) (r2 : x22t2) : x22t2 := fun s56 s57 m32 m33 => bif decide (s57 < s56) then bif decide (0 ≤ s57 ∧ s57.toNat < List.length m33) then (m33[s57.toNat]?).bind fun y1 => bif decide ((998 : Int) < (List.length y1 : Int)) then (F_basic_Fault (1 : Int) s57).bind fun x2 => some (x2, []) else r2 s56 (w64 (s57 + (1 : Int))) m32 m33 else none else (F_basic_None).bind fun x3 => some (x3, m33)
def F_fold_Fold_p2 (fu : Nat) : Nat → x22t2 | 0 => fun _ _ _ _ => none | n + 1 => F_fold_Fold_b2 fu (F_fold_Fold_p2 fu n)
def F_fold_Fold_p1 (fu : Nat) : x22t1 := fun s6 m32 m33 => bif decide (List.length (m33 ++ ([s6] : List Bs)) ≤ rowMax) then F_fold_Fold_p2 fu fu (List.length (m33 ++ ([s6] : List Bs)) : Int) (0 : Int) m32 (m33 ++ ([s6] : List Bs)) else none
def F_fold_Fold_b0 (fu : Nat) (r0 : x22t0) : x22t0 := fun s6 s7 m32 m33 => bif decide ((78 : Int) < (List.length s6 : Int)) then (F_fold_point fu s6 s7).bind fun x1 => bif x1 == (0 : Int) then F_fold_Fold_p1 fu s6 m32 m33 else bif decide (0 ≤ x1 ∧ x1 ≤ (List.length s6 : Int)) then bif decide (List.length (m33 ++ ([List.take x1.toNat s6] : List Bs)) ≤ rowMax) then bif decide (0 ≤ x1 ∧ x1 ≤ (List.length s6 : Int)) then r0 (List.drop x1.toNat s6) (0 : Int) m32 (m33 ++ ([List.take x1.toNat s6] : List Bs)) else none else none else none else F_fold_Fold_p1 fu s6 m32 m33
def F_fold_Fold_p0 (fu : Nat) : Nat → x22t0 | 0 => fun _ _ _ _ => none | n + 1 => F_fold_Fold_b0 fu (F_fold_Fold_p0 fu n)
def F_fold_Fold (fu : Nat) (p0 : Bs) (p1 : Bs) : Option ((Int × Int) × (List Bs)) := (F_fold_name fu p0).bind fun x1 => bif !x1 then (F_basic_Fault (10 : Int) (-1 : Int)).bind fun x2 => some (x2, []) else bif decide ((4000 : Int) < (List.length p1 : Int)) then (F_basic_Fault (1 : Int) (-1 : Int)).bind fun x3 => some (x3, []) else (F_fold_value fu p1).bind fun x4 => bif !x4 then (F_basic_Fault (11 : Int) (-1 : Int)).bind fun x5 => some (x5, []) else bif decide (List.length p0 + List.length ([58, 32] : Bs) ≤ strMax) then bif decide (List.length (p0 ++ ([58, 32] : Bs)) + List.length p1 ≤ strMax) then F_fold_Fold_p0 fu fu ((p0 ++ ([58, 32] : Bs)) ++ p1) (w64 ((List.length p0 : Int) + (2 : Int))) ((0 : Int), (0 : Int)) [] else none else none
/- posthouse/basic.Failed -/
def F_basic_Failed (p0 : Int × Int) : Option Bool := some (p0.1 != (0 : Int))
/- posthouse/header.Validate -/
abbrev x24t0 : Type := (List (Bs × Bs)) → Int → Int → (Int × Int) → Option ((Int × Int))
def F_header_Validate_b0 (fu : Nat) (r0 : x24t0) : x24t0 := fun s11 s12 s13 m32 => bif decide (s13 < s12) then (idx s11 s13).bind fun y1 => (F_fold_Fold fu y1.1 y1.2).bind fun x2 => (F_basic_Failed x2.1).bind fun x3 => bif x3 then (F_basic_Fault x2.1.1 s13).bind fun x4 => some x4 else r0 s11 s12 (w64 (s13 + (1 : Int))) m32 else (F_basic_None).bind fun x5 => some x5
def F_header_Validate_p0 (fu : Nat) : Nat → x24t0 | 0 => fun _ _ _ _ => none | n + 1 => F_header_Validate_b0 fu (F_header_Validate_p0 fu n)
def F_header_Validate (fu : Nat) (p0 : List (Bs × Bs)) : Option ((Int × Int)) := bif decide ((60 : Int) < (List.length p0 : Int)) then (F_basic_Fault (2 : Int) (-1 : Int)).bind fun x1 => some x1 else F_header_Validate_p0 fu fu p0 (List.length p0 : Int) (0 : Int) ((0 : Int), (0 : Int))
/- posthouse/basic.Lower -/
abbrev x25t0 : Type := Int → Int → Bs → Option (Bs)
def F_basic_Lower_b0 (fu : Nat) (r0 : x25t0) : x25t0 := fun s9 s10 m32 => bif decide (s10 < s9) then bif decide (0 ≤ s10 ∧ s10.toNat < List.length m32) then (m32[s10.toNat]?).bind fun y1 => bif decide ((65 : UInt8) ≤ y1) then bif decide (y1 ≤ (90 : UInt8)) then bif decide (0 ≤ s10 ∧ s10.toNat < List.length m32) then (m32[s10.toNat]?).bind fun y2 => r0 s9 (w64 (s10 + (1 : Int))) (List.set m32 s10.toNat ((y1 + (97 : UInt8)) - (65 : UInt8))) else none else r0 s9 (w64 (s10 + (1 : Int))) m32 else r0 s9 (w64 (s10 + (1 : Int))) m32 else none else some m32
def F_basic_Lower_p0 (fu : Nat) : Nat → x25t0 | 0 => fun _ _ _ => none | n + 1 => F_basic_Lower_b0 fu (F_basic_Lower_p0 fu n)
def F_basic_Lower (fu : Nat) (p0 : Bs) : Option (Bs) := bif decide (List.length p0 ≤ maxLen) then F_basic_Lower_p0 fu fu (List.length p0 : Int) (0 : Int) p0 else none
/- posthouse/basic.Same -/
def F_basic_Same (fu : Nat) (p0 : Bs) (p1 : Bs) : Option Bool := bif (List.length p0 : Int) == (List.length p1 : Int) then (F_basic_Lower fu p0).bind fun x1 => (F_basic_Lower fu p1).bind fun x2 => some (x1 == x2) else some false
/- strings.trimLeftByte -/
abbrev x27t0 : Type := Bs → UInt8 → Option (Bs)
def F_strings_trimLeftByte_b0 (fu : Nat) (r0 : x27t0) : x27t0 := fun s0 s1 => bif decide ((0 : Int) < (List.length s0 : Int)) then (idx s0 (0 : Int)).bind fun c1 => bif c1 == s1 then bif decide (0 ≤ (1 : Int) ∧ (1 : Int) ≤ (List.length s0 : Int)) then r0 (List.drop (1 : Int).toNat s0) s1 else none else some s0 else some s0
def F_strings_trimLeftByte_p0 (fu : Nat) : Nat → x27t0 | 0 => fun _ _ => none | n + 1 => F_strings_trimLeftByte_b0 fu (F_strings_trimLeftByte_p0 fu n)
def F_strings_trimLeftByte (fu : Nat) (p0 : Bs) (p1 : UInt8) : Option (Bs) := F_strings_trimLeftByte_p0 fu fu p0 p1
/- strings.trimLeftASCII -/
abbrev x28t0 : Type := Bs → (List Bool) → Option (Bs × (List Bool))
def F_strings_trimLeftASCII_b0 (fu : Nat) (r0 : x28t0) : x28t0 := fun s0 m0 => bif decide ((0 : Int) < (List.length s0 : Int)) then (idx s0 (0 : Int)).bind fun c1 => (F_strings_asciiSet_contains c1 m0).bind fun x2 => bif !x2.1 then some (s0, x2.2) else bif decide (0 ≤ (1 : Int) ∧ (1 : Int) ≤ (List.length s0 : Int)) then r0 (List.drop (1 : Int).toNat s0) x2.2 else none else some (s0, m0)
def F_strings_trimLeftASCII_p0 (fu : Nat) : Nat → x28t0 | 0 => fun _ _ => none | n + 1 => F_strings_trimLeftASCII_b0 fu (F_strings_trimLeftASCII_p0 fu n)
def F_strings_trimLeftASCII (fu : Nat) (p0 : Bs) (p1 : List Bool) : Option (Bs × (List Bool)) := F_strings_trimLeftASCII_p0 fu fu p0 p1
/- unicode/utf8.decodeRuneInStringSlow -/
abbrev x29t5 : Type := UInt8 → UInt8 → UInt8 → UInt8 → Option (Int × Int)
abbrev x29t4 : Type := UInt8 → UInt8 → UInt8 → UInt8 → Bool → Option (Int × Int)
abbrev x29t3 : Type := Bs → UInt8 → Int → UInt8 → UInt8 → Option (Int × Int)
abbrev x29t2 : Type := Bs → UInt8 → Int → UInt8 → UInt8 → Bool → Option (Int × Int)
abbrev x29t1 : Type := Bs → UInt8 → Int → UInt8 → Option (Int × Int)
abbrev x29t0 : Type := Bs → UInt8 → Int → UInt8 → Bool → Option (Int × Int)
def F_unicode_utf8_decodeRuneInStringSlow_p5 : x29t5 := fun s5 s10 s11 s12 => some (IntKind.i32.wrap (((BitVec.ofInt 32 (IntKind.i32.wrap (((BitVec.ofInt 32 (IntKind.i32.wrap (((BitVec.ofInt 32 (IntKind.i32.wrap (((s5 &&& (7 : UInt8)).toNat : Int) * 2 ^ min (18 : Int).toNat 32)) ||| BitVec.ofInt 32 (IntKind.i32.wrap (((s10 &&& (63 : UInt8)).toNat : Int) * 2 ^ min (12 : Int).toNat 32))).toNat : Int))) ||| BitVec.ofInt 32 (IntKind.i32.wrap (((s11 &&& (63 : UInt8)).toNat : Int) * 2 ^ min (6 : Int).toNat 32))).toNat : Int))) ||| BitVec.ofInt 32 ((s12 &&& (63 : UInt8)).toNat : Int)).toNat : Int)), (4 : Int))
def F_unicode_utf8_decodeRuneInStringSlow_p4 : x29t4 := fun s5 s10 s11 s12 s98 => bif s98 then some ((65533 : Int), (1 : Int)) else F_unicode_utf8_decodeRuneInStringSlow_p5 s5 s10 s11 s12
def F_unicode_utf8_decodeRuneInStringSlow_p3 : x29t3 := fun s0 s5 s8 s10 s11 => bif decide (s8 ≤ (3 : Int)) then some (IntKind.i32.wrap (((BitVec.ofInt 32 (IntKind.i32.wrap (((BitVec.ofInt 32 (IntKind.i32.wrap (((s5 &&& (15 : UInt8)).toNat : Int) * 2 ^ min (12 : Int).toNat 32)) ||| BitVec.ofInt 32 (IntKind.i32.wrap (((s10 &&& (63 : UInt8)).toNat : Int) * 2 ^ min (6 : Int).toNat 32))).toNat : Int))) ||| BitVec.ofInt 32 ((s11 &&& (63 : UInt8)).toNat : Int)).toNat : Int)), (3 : Int)) else (idx s0 (3 : Int)).bind fun c1 => bif decide (c1 < (128 : UInt8)) then F_unicode_utf8_decodeRuneInStringSlow_p4 s5 s10 s11 c1 true else F_unicode_utf8_decodeRuneInStringSlow_p4 s5 s10 s11 c1 (decide ((191 : UInt8) < c1))
def F_unicode_utf8_decodeRuneInStringSlow_p2 : x29t2 := fun s0 s5 s8 s10 s11 s75 => bif s75 then some ((65533 : Int), (1 : Int)) else F_unicode_utf8_decodeRuneInStringSlow_p3 s0 s5 s8 s10 s11
def F_unicode_utf8_decodeRuneInStringSlow_p1 : x29t1 := fun s0 s5 s8 s10 => bif decide (s8 ≤ (2 : Int)) then some (IntKind.i32.wrap (((BitVec.ofInt 32 (IntKind.i32.wrap (((s5 &&& (31 : UInt8)).toNat : Int) * 2 ^ min (6 : Int).toNat 32)) ||| BitVec.ofInt 32 ((s10 &&& (63 : UInt8)).toNat : Int)).toNat : Int)), (2 : Int)) else (idx s0 (2 : Int)).bind fun c1 => bif decide (c1 < (128 : UInt8)) then F_unicode_utf8_decodeRuneInStringSlow_p2 s0 s5 s8 s10 c1 true else F_unicode_utf8_decodeRuneInStringSlow_p2 s0 s5 s8 s10 c1 (decide ((191 : UInt8) < c1))
def F_unicode_utf8_decodeRuneInStringSlow_p0 : x29t0 := fun s0 s5 s8 s10 s57 => bif s57 then some ((65533 : Int), (1 : Int)) else F_unicode_utf8_decodeRuneInStringSlow_p1 s0 s5 s8 s10
def F_unicode_utf8_decodeRuneInStringSlow (p0 : Bs) : Option (Int × Int) := bif decide ((List.length p0 : Int) < (1 : Int)) then some ((65533 : Int), (0 : Int)) else (idx p0 (0 : Int)).bind fun c1 => (tab0[c1.toNat]?).bind fun y2 => bif decide ((240 : UInt8) ≤ y2) then (idx p0 (0 : Int)).bind fun c3 => some (IntKind.i32.wrap (((BitVec.ofInt 32 (IntKind.i32.wrap (((BitVec.ofInt 32 (c3.toNat : Int) &&& ~~~ BitVec.ofInt 32 (Int.fdiv (IntKind.i32.wrap ((y2.toNat : Int) * 2 ^ min (31 : Int).toNat 32)) (2 ^ min (31 : Int).toNat 32))).toNat : Int))) ||| BitVec.ofInt 32 (IntKind.i32.wrap (((BitVec.ofInt 32 (65533 : Int) &&& BitVec.ofInt 32 (Int.fdiv (IntKind.i32.wrap ((y2.toNat : Int) * 2 ^ min (31 : Int).toNat 32)) (2 ^ min (31 : Int).toNat 32))).toNat : Int)))).toNat : Int)), (1 : Int)) else (tab1[(u8shr y2 (min (4 : Int).toNat 8)).toNat]?).bind fun y4 => bif decide ((List.length p0 : Int) < ((y2 &&& (7 : UInt8)).toNat : Int)) then some ((65533 : Int), (1 : Int)) else (idx p0 (1 : Int)).bind fun c5 => bif decide (c5 < y4.1) then F_unicode_utf8_decodeRuneInStringSlow_p0 p0 c1 ((y2 &&& (7 : UInt8)).toNat : Int) c5 true else F_unicode_utf8_decodeRuneInStringSlow_p0 p0 c1 ((y2 &&& (7 : UInt8)).toNat : Int) c5 (decide (y4.2 < c5))
/- unicode/utf8.DecodeRuneInString -/
def F_unicode_utf8_DecodeRuneInString (p0 : Bs) : Option (Int × Int) := bif !(p0 == ([] : Bs)) then (idx p0 (0 : Int)).bind fun c1 => bif decide (c1 < (128 : UInt8)) then (idx p0 (0 : Int)).bind fun c2 => some ((c2.toNat : Int), (1 : Int)) else (F_unicode_utf8_decodeRuneInStringSlow p0).bind fun x3 => some x3 else (F_unicode_utf8_decodeRuneInStringSlow p0).bind fun x4 => some x4
/- strings.ContainsRune -/
def F_strings_ContainsRune (fu : Nat) (p0 : Bs) (p1 : Int) : Option Bool := (F_strings_IndexRune fu p0 p1).bind fun x1 => some (decide ((0 : Int) ≤ x1))
/- strings.trimLeftUnicode -/
abbrev x32t0 : Type := Bs → Bs → Option (Bs)
def F_strings_trimLeftUnicode_b0 (fu : Nat) (r0 : x32t0) : x32t0 := fun s0 s1 => bif decide ((0 : Int) < (List.length s0 : Int)) then (F_unicode_utf8_DecodeRuneInString s0).bind fun x1 => (F_strings_ContainsRune fu s1 x1.1).bind fun x2 => bif !x2 then some s0 else bif decide (0 ≤ x1.2 ∧ x1.2 ≤ (List.length s0 : Int)) then r0 (List.drop x1.2.toNat s0) s1 else none else some s0
def F_strings_trimLeftUnicode_p0 (fu : Nat) : Nat → x32t0 | 0 => fun _ _ => none | n + 1 => F_strings_trimLeftUnicode_b0 fu (F_strings_trimLeftUnicode_p0 fu n)
def F_strings_trimLeftUnicode (fu : Nat) (p0 : Bs) (p1 : Bs) : Option (Bs) := F_strings_trimLeftUnicode_p0 fu fu p0 p1
/- strings.TrimLeft -/
abbrev x33t3 : Type := Bs → Bs → Option (Bs)
abbrev x33t2 : Type := Bs → Bs → Bool → Option (Bs)
abbrev x33t1 : Type := Bs → Bs → Option (Bs)
abbrev x33t0 : Type := Bs → Bs → Bool → Option (Bs)
def F_strings_TrimLeft_p3 (fu : Nat) : x33t3 := fun s0 s1 => (F_strings_makeASCIISet fu s1).bind fun x1 => bif decide (List.length x1.1 = List.length (List.replicate 256 false)) && decide (List.length x1.1 = 256) then bif x1.2 then (F_strings_trimLeftASCII fu s0 x1.1).bind fun x2 => some x2.1 else (F_strings_trimLeftUnicode fu s0 s1).bind fun x3 => some x3 else none
def F_strings_TrimLeft_p2 (fu : Nat) : x33t2 := fun s0 s1 s21 => bif s21 then (idx s1 (0 : Int)).bind fun c1 => (F_strings_trimLeftByte fu s0 c1).bind fun x2 => some x2 else F_strings_TrimLeft_p3 fu s0 s1
def F_strings_TrimLeft_p1 (fu : Nat) : x33t1 := fun s0 s1 => bif (List.length s1 : Int) == (1 : Int) then (idx s1 (0 : Int)).bind fun c1 => F_strings_TrimLeft_p2 fu s0 s1 (decide (c1 < (128 : UInt8))) else F_strings_TrimLeft_p2 fu s0 s1 false
def F_strings_TrimLeft_p0 (fu : Nat) : x33t0 := fun s0 s1 s12 => bif s12 then some s0 else F_strings_TrimLeft_p1 fu s0 s1
def F_strings_TrimLeft (fu : Nat) (p0 : Bs) (p1 : Bs) : Option (Bs) := bif p0 == ([] : Bs) then F_strings_TrimLeft_p0 fu p0 p1 true else F_strings_TrimLeft_p0 fu p0 p1 (p1 == ([] : Bs))
/- (*posthouse/media.reader).blanks -/
def F_media_reader_blanks (fu : Nat) (p0 : Bs) : Option (Bs) := (F_strings_TrimLeft fu p0 ([32, 9] : Bs)).bind fun x1 => some x1
/- posthouse/media.tokenByte -/
def F_media_tokenByte (p0 : UInt8) : Option Bool := bif decide ((33 : UInt8) ≤ p0) then bif decide (p0 ≤ (126 : UInt8)) then (F_strings_IndexByte ([40, 41, 60, 62, 64, 44, 59, 58, 92, 34, 47, 91, 93, 63, 61, 42, 37, 39] : Bs) p0).bind fun x1 => some (decide (x1 < (0 : Int))) else some false else some false
/- (*posthouse/media.reader).take -/
abbrev x36t2 : Type := Int → Bs → Option (Bs × Bs)
abbrev x36t1 : Type := Int → Bool → Bs → Option (Bs × Bs)
abbrev x36t0 : Type := Int → Bs → Option (Bs × Bs)
def F_media_reader_take_p2 (fu : Nat) (r0 : x36t0) : x36t2 := fun s5 m0 => r0 (w64 (s5 + (1 : Int))) m0
def F_media_reader_take_p1 (fu : Nat) (r0 : x36t0) : x36t1 := fun s5 s25 m0 => bif s25 then F_media_reader_take_p2 fu r0 s5 m0 else bif decide (0 ≤ s5 ∧ s5 ≤ (List.length m0 : Int)) then bif decide (0 ≤ s5 ∧ s5 ≤ (List.length m0 : Int)) then some (List.take s5.toNat m0, List.drop s5.toNat m0) else none else none
def F_media_reader_take_b0 (fu : Nat) (r0 : x36t0) : x36t0 := fun s5 m0 => bif decide (s5 < (List.length m0 : Int)) then (idx m0 s5).bind fun c1 => (F_media_tokenByte c1).bind fun x2 => F_media_reader_take_p1 fu r0 s5 x2 m0 else F_media_reader_take_p1 fu r0 s5 false m0
def F_media_reader_take_p0 (fu : Nat) : Nat → x36t0 | 0 => fun _ _ => none | n + 1 => F_media_reader_take_b0 fu (F_media_reader_take_p0 fu n)
def F_media_reader_take (fu : Nat) (p0 : Bs) : Option (Bs × Bs) := (F_media_reader_blanks fu p0).bind fun x1 => F_media_reader_take_p0 fu fu (0 : Int) x1
/- (*posthouse/media.reader).sign -/
def F_media_reader_sign (fu : Nat) (p0 : UInt8) (p1 : Bs) : Option (Bool × Bs) := (F_media_reader_blanks fu p1).bind fun x1 => bif x1 == ([] : Bs) then some (false, x1) else (idx x1 (0 : Int)).bind fun c2 => bif c2 != p0 then some (false, x1) else bif decide (0 ≤ (1 : Int) ∧ (1 : Int) ≤ (List.length x1 : Int)) then some (true, List.drop (1 : Int).toNat x1) else none
/- (*posthouse/media.reader).read$1 -/
def F_media_reader_read_1 (p0 : UInt8) : Option Bool := (F_media_tokenByte p0).bind fun x1 => bif x1 then some true else some (p0 == (42 : UInt8))
/- (*posthouse/media.reader).take -/
abbrev x39t2 : Type := Int → Bs → Option (Bs × Bs)
abbrev x39t1 : Type := Int → Bool → Bs → Option (Bs × Bs)
abbrev x39t0 : Type := Int → Bs → Option (Bs × Bs)
def F_media_reader_take_v1_p2 (fu : Nat) (r0 : x39t0) : x39t2 := fun s5 m0 => r0 (w64 (s5 + (1 : Int))) m0
def F_media_reader_take_v1_p1 (fu : Nat) (r0 : x39t0) : x39t1 := fun s5 s25 m0 => bif s25 then F_media_reader_take_v1_p2 fu r0 s5 m0 else bif decide (0 ≤ s5 ∧ s5 ≤ (List.length m0 : Int)) then bif decide (0 ≤ s5 ∧ s5 ≤ (List.length m0 : Int)) then some (List.take s5.toNat m0, List.drop s5.toNat m0) else none else none
def F_media_reader_take_v1_b0 (fu : Nat) (r0 : x39t0) : x39t0 := fun s5 m0 => bif decide (s5 < (List.length m0 : Int)) then (idx m0 s5).bind fun c1 => (F_media_reader_read_1 c1).bind fun x2 => F_media_reader_take_v1_p1 fu r0 s5 x2 m0 else F_media_reader_take_v1_p1 fu r0 s5 false m0
def F_media_reader_take_v1_p0 (fu : Nat) : Nat → x39t0 | 0 => fun _ _ => none | n + 1 => F_media_reader_take_v1_b0 fu (F_media_reader_take_v1_p0 fu n)
def F_media_reader_take_v1 (fu : Nat) (p0 : Bs) : Option (Bs × Bs) := (F_media_reader_blanks fu p0).bind fun x1 => F_media_reader_take_v1_p0 fu fu (0 : Int) x1
/- (*posthouse/media.reader).value$1 -/
def F_media_reader_value_1 (p0 : UInt8) : Option Bool := (F_media_tokenByte p0).bind fun x1 => bif x1 then some true else bif p0 == (37 : UInt8) then some true else bif p0 == (39 : UInt8) then some true else some (p0 == (42 : UInt8))
/- (*posthouse/media.reader).take -/
abbrev x41t2 : Type := Int → Bs → Option (Bs × Bs)
abbrev x41t1 : Type := Int → Bool → Bs → Option (Bs × Bs)
abbrev x41t0 : Type := Int → Bs → Option (Bs × Bs)
def F_media_reader_take_v2_p2 (fu : Nat) (r0 : x41t0) : x41t2 := fun s5 m0 => r0 (w64 (s5 + (1 : Int))) m0
def F_media_reader_take_v2_p1 (fu : Nat) (r0 : x41t0) : x41t1 := fun s5 s25 m0 => bif s25 then F_media_reader_take_v2_p2 fu r0 s5 m0 else bif decide (0 ≤ s5 ∧ s5 ≤ (List.length m0 : Int)) then bif decide (0 ≤ s5 ∧ s5 ≤ (List.length m0 : Int)) then some (List.take s5.toNat m0, List.drop s5.toNat m0) else none else none
def F_media_reader_take_v2_b0 (fu : Nat) (r0 : x41t0) : x41t0 := fun s5 m0 => bif decide (s5 < (List.length m0 : Int)) then (idx m0 s5).bind fun c1 => (F_media_reader_value_1 c1).bind fun x2 => F_media_reader_take_v2_p1 fu r0 s5 x2 m0 else F_media_reader_take_v2_p1 fu r0 s5 false m0
def F_media_reader_take_v2_p0 (fu : Nat) : Nat → x41t0 | 0 => fun _ _ => none | n + 1 => F_media_reader_take_v2_b0 fu (F_media_reader_take_v2_p0 fu n)
def F_media_reader_take_v2 (fu : Nat) (p0 : Bs) : Option (Bs × Bs) := (F_media_reader_blanks fu p0).bind fun x1 => F_media_reader_take_v2_p0 fu fu (0 : Int) x1
/- (*posthouse/media.reader).value -/
abbrev x42t0 : Type := Int → Bs → Bs → Option (Bs × Bool × Bs)
def F_media_reader_value_b0 (fu : Nat) (r0 : x42t0) : x42t0 := fun s5 m0 m32 => bif decide (s5 < (List.length m0 : Int)) then (idx m0 s5).bind fun c1 => bif c1 == (34 : UInt8) then bif decide (0 ≤ w64 (s5 + (1 : Int)) ∧ w64 (s5 + (1 : Int)) ≤ (List.length m0 : Int)) then some (m32, (true, List.drop (w64 (s5 + (1 : Int))).toNat m0)) else none else bif c1 == (92 : UInt8) then bif (w64 (s5 + (1 : Int))) == (List.length m0 : Int) then some (([] : Bs), (false, m0)) else (idx m0 (w64 (s5 + (1 : Int)))).bind fun c2 => bif decide (List.length (m32 ++ ([c2] : Bs)) ≤ rowMax) then r0 (w64 ((w64 (s5 + (1 : Int))) + (1 : Int))) m0 (m32 ++ ([c2] : Bs)) else none else bif decide (List.length (m32 ++ ([c1] : Bs)) ≤ rowMax) then r0 (w64 (s5 + (1 : Int))) m0 (m32 ++ ([c1] : Bs)) else none else some (([] : Bs), (false, m0))
def F_media_reader_value_p0 (fu : Nat) : Nat → x42t0 | 0 => fun _ _ _ => none | n + 1 => F_media_reader_value_b0 fu (F_media_reader_value_p0 fu n)
def F_media_reader_value (fu : Nat) (p0 : Bs) : Option (Bs × Bool × Bs) := (F_media_reader_sign fu (34 : UInt8) p0).bind fun x1 => bif !x1.1 then (F_media_reader_take_v2 fu x1.2).bind fun x2 => some (x2.1, (true, x2.2)) else F_media_reader_value_p0 fu fu (0 : Int) x1.2 []
/- internal/stringslite.Index -/
abbrev x43t0 : Type := Bs → Bs → Int → Bool → Option Int
def F_internal_stringslite_Index_p0 : x43t0 := fun s0 s1 s5 s16 => bif s16 then some (0 : Int) else bif s5 == (1 : Int) then (idx s1 (0 : Int)).bind fun c1 => (F_internal_stringslite_IndexByte s0 c1).bind fun x2 => some x2 else bif decide ((List.length s0 : Int) ≤ s5) then some (-1 : Int) else none
def F_internal_stringslite_Index (p0 : Bs) (p1 : Bs) : Option Int := bif (List.length p1 : Int) == (0 : Int) then F_internal_stringslite_Index_p0 p0 p1 (List.length p1 : Int) true else F_internal_stringslite_Index_p0 p0 p1 (List.length p1 : Int) (p1 == p0)
/- internal/stringslite.Cut -/
def F_internal_stringslite_Cut (p0 : Bs) (p1 : Bs) : Option (Bs × Bs × Bool) := (F_internal_stringslite_Index p0 p1).bind fun x1 => bif decide ((0 : Int) ≤ x1) then bif decide (0 ≤ x1 ∧ x1 ≤ (List.length p0 : Int)) then bif decide (0 ≤ w64 (x1 + (List.length p1 : Int)) ∧ w64 (x1 + (List.length p1 : Int)) ≤ (List.length p0 : Int)) then some (List.take x1.toNat p0, (List.drop (w64 (x1 + (List.length p1 : Int))).toNat p0, true)) else none else none else some (p0, (([] : Bs), false))
/- strings.Cut -/
def F_strings_Cut (p0 : Bs) (p1 : Bs) : Option (Bs × Bs × Bool) := (F_internal_stringslite_Cut p0 p1).bind fun x1 => some x1
/- internal/stringslite.HasSuffix -/
def F_internal_stringslite_HasSuffix (p0 : Bs) (p1 : Bs) : Option Bool := bif decide ((List.length p1 : Int) ≤ (List.length p0 : Int)) then bif decide (0 ≤ w64 ((List.length p0 : Int) - (List.length p1 : Int)) ∧ w64 ((List.length p0 : Int) - (List.length p1 : Int)) ≤ (List.length p0 : Int)) then some ((List.drop (w64 ((List.length p0 : Int) - (List.length p1 : Int))).toNat p0) == p1) else none else some false
/- internal/stringslite.CutSuffix -/
def F_internal_stringslite_CutSuffix (p0 : Bs) (p1 : Bs) : Option (Bs × Bool) := (F_internal_stringslite_HasSuffix p0 p1).bind fun x1 => bif !x1 then some (p0, false) else bif decide (0 ≤ w64 ((List.length p0 : Int) - (List.length p1 : Int)) ∧ w64 ((List.length p0 : Int) - (List.length p1 : Int)) ≤ (List.length p0 : Int)) then some (List.take (w64 ((List.length p0 : Int) - (List.length p1 : Int))).toNat p0, true) else none
/- strings.CutSuffix -/
def F_strings_CutSuffix (p0 : Bs) (p1 : Bs) : Option (Bs × Bool) := (F_internal_stringslite_CutSuffix p0 p1).bind fun x1 => some x1
/- (*posthouse/media.reader).read -/
abbrev R_media_reader_read : Type := (Bs × Int × Bool × Bs) × Bool × Bs
def F_media_reader_read (fu : Nat) (p0 : Bs) : Option R_media_reader_read := (F_media_reader_take_v1 fu p0).bind fun x1 => (F_media_reader_sign fu (61 : UInt8) x1.2).bind fun x2 => bif !x2.1 then some ((([] : Bs), ((0 : Int), (false, ([] : Bs)))), (false, x2.2)) else (F_media_reader_value fu x2.2).bind fun x3 => (F_strings_Cut x1.1 ([42] : Bs)).bind fun x4 => bif x4.2.2 then (F_strings_CutSuffix x4.2.1 ([42] : Bs)).bind fun x5 => none else bif x3.2.1 then some ((x4.1, ((-1 : Int), (false, x3.1))), (!(x4.1 == ([] : Bs)), x3.2.2)) else some ((x4.1, ((-1 : Int), (false, x3.1))), (false, x3.2.2))
/- posthouse/media.params$1 -/
abbrev R_media_params_1 : Type := Bool × (Bs × Int × Bool × Bs)
def F_media_params_1 (fu : Nat) (p0 : Bs × Int × Bool × Bs) (p1 : Bs × Int × Bool × Bs) : Option R_media_params_1 := (F_basic_Same fu p0.1 p1.1).bind fun x1 => some (x1, p1)
/- slices.IndexFunc[[]posthouse/media.piece,posthouse/media.piece] -/
abbrev R_slices_IndexFunc_media_piece_media_piece : Type := Int × (Bs × Int × Bool × Bs)
abbrev x51t0 : Type := (List (Bs × Int × Bool × Bs)) → Int → Int → (Bs × Int × Bool × Bs) → Option R_slices_IndexFunc_media_piece_media_piece
def F_slices_IndexFunc_media_piece_media_piece_b0 (fu : Nat) (r0 : x51t0) : x51t0 := fun s0 s7 s8 m0 => bif decide (s8 < s7) then (idx s0 s8).bind fun y1 => (F_media_params_1 fu y1 m0).bind fun x2 => bif x2.1 then some (s8, x2.2) else r0 s0 s7 (w64 (s8 + (1 : Int))) x2.2 else some ((-1 : Int), m0)
def F_slices_IndexFunc_media_piece_media_piece_p0 (fu : Nat) : Nat → x51t0 | 0 => fun _ _ _ _ => none | n + 1 => F_slices_IndexFunc_media_piece_media_piece_b0 fu (F_slices_IndexFunc_media_piece_media_piece_p0 fu n)
def F_slices_IndexFunc_media_piece_media_piece (fu : Nat) (p0 : List (Bs × Int × Bool × Bs)) (p1 : Bs × Int × Bool × Bs) : Option R_slices_IndexFunc_media_piece_media_piece := F_slices_IndexFunc_media_piece_media_piece_p0 fu fu p0 (List.length p0 : Int) (0 : Int) p1
/- slices.ContainsFunc[[]posthouse/media.piece,posthouse/media.piece] -/
abbrev R_slices_ContainsFunc_media_piece_media_piece : Type := Bool × (Bs × Int × Bool × Bs)
def F_slices_ContainsFunc_media_piece_media_piece (fu : Nat) (p0 : List (Bs × Int × Bool × Bs)) (p1 : Bs × Int × Bool × Bs) : Option R_slices_ContainsFunc_media_piece_media_piece := (F_slices_IndexFunc_media_piece_media_piece fu p0 p1).bind fun x1 => some (decide ((0 : Int) ≤ x1.1), x1.2)
/- posthouse/media.joined -/
def F_media_joined (p0 : List (Bs × Int × Bool × Bs)) : Option ((Bs × Bs) × Bool) := (idx p0 (0 : Int)).bind fun y1 => (idx p0 (0 : Int)).bind fun y2 => (idx p0 (0 : Int)).bind fun y3 => bif decide (y3.2.1 < (0 : Int)) then some ((y1.1, y2.2.2.2), (List.length p0 : Int) == (1 : Int)) else none
/- posthouse/media.joined -/
def F_media_joined_v1 (p0 : List (Bs × Int × Bool × Bs)) : Option ((Bs × Bs) × Bool) := bif decide (0 ≤ (0 : Int) ∧ (0 : Int).toNat < List.length p0) then (p0[(0 : Int).toNat]?).bind fun y1 => bif decide (0 ≤ (0 : Int) ∧ (0 : Int).toNat < List.length p0) then (p0[(0 : Int).toNat]?).bind fun y2 => bif decide (0 ≤ (0 : Int) ∧ (0 : Int).toNat < List.length p0) then (p0[(0 : Int).toNat]?).bind fun y3 => bif decide (y3.2.1 < (0 : Int)) then some ((y1.1, y2.2.2.2), (List.length p0 : Int) == (1 : Int)) else none else none else none else none
/- posthouse/media.params -/
abbrev R_media_params : Type := Bool × (List (Bs × Bs))
abbrev x55t2 : Type := (List (Bs × Int × Bool × Bs)) → (List (Bs × Int × Bool × Bs)) → Int → Int → (List (Bs × Int × Bool × Bs)) → Int → Int → (Bs × Int × Bool × Bs) → (List (Bs × Int × Bool × Bs)) → (List (Bs × Bs)) → Option R_media_params
abbrev x55t1 : Type := (List (Bs × Int × Bool × Bs)) → (List (Bs × Int × Bool × Bs)) → Int → Int → (List (Bs × Int × Bool × Bs)) → Int → Int → (Bs × Int × Bool × Bs) → (List (Bs × Bs)) → (List (Bs × Int × Bool × Bs)) → Option R_media_params
abbrev x55t0 : Type := (List (Bs × Int × Bool × Bs)) → (List (Bs × Int × Bool × Bs)) → Int → Int → (List (Bs × Bs)) → Option R_media_params
def F_media_params_p2 (fu : Nat) (r0 : x55t0) (r1 : x55t1) : x55t2 := fun s0 s13 s14 s15 s26 s27 s28 m32 m33 m34 => r1 s0 s13 s14 s15 s26 s27 (w64 (s28 + (1 : Int))) m32 m34 m33
def F_media_params_b1 (fu : Nat) (r0 : x55t0) (r1 : x55t1) : x55t1 := fun s0 s13 s14 s15 s26 s27 s28 m32 m33 m34 => bif decide (s28 < s27) then (idx s26 s28).bind fun y1 => (F_media_params_1 fu y1 m32).bind fun x2 => bif x2.1 then bif decide (List.length (m34 ++ ([y1] : List (Bs × Int × Bool × Bs))) ≤ rowMax) then F_media_params_p2 fu r0 r1 s0 s13 s14 s15 s26 s27 s28 x2.2 (m34 ++ ([y1] : List (Bs × Int × Bool × Bs))) m33 else none else F_media_params_p2 fu r0 r1 s0 s13 s14 s15 s26 s27 s28 x2.2 m34 m33 else (F_media_joined_v1 m34).bind fun x3 => bif !x3.2 then some (false, []) else bif decide (List.length (m33 ++ ([(m32.1, x3.1.2)] : List (Bs × Bs))) ≤ rowMax) then r0 s0 s13 s14 (w64 (s15 + (1 : Int))) (m33 ++ ([(m32.1, x3.1.2)] : List (Bs × Bs))) else none
def F_media_params_p1 (fu : Nat) (r0 : x55t0) : Nat → x55t1 | 0 => fun _ _ _ _ _ _ _ _ _ _ => none | n + 1 => F_media_params_b1 fu r0 (F_media_params_p1 fu r0 n)
def F_media_params_b0 (fu : Nat) (r0 : x55t0) : x55t0 := fun s0 s13 s14 s15 m32 => bif decide (s15 < s14) then (idx s13 s15).bind fun y1 => bif decide (0 ≤ s15 ∧ s15 ≤ (List.length s0 : Int)) then (F_slices_ContainsFunc_media_piece_media_piece fu (List.take s15.toNat s0) y1).bind fun x2 => bif x2.1 then r0 s0 s13 s14 (w64 (s15 + (1 : Int))) m32 else F_media_params_p1 fu r0 fu s0 s13 s14 s15 s0 (List.length s0 : Int) (0 : Int) x2.2 m32 [] else none else some (true, m32)
def F_media_params_p0 (fu : Nat) : Nat → x55t0 | 0 => fun _ _ _ _ _ => none | n + 1 => F_media_params_b0 fu (F_media_params_p0 fu n)
def F_media_params (fu : Nat) (p0 : List (Bs × Int × Bool × Bs)) : Option R_media_params := F_media_params_p0 fu fu p0 p0 (List.length p0 : Int) (0 : Int) []
/- posthouse/media.parse -/
abbrev R_media_parse : Type := (Bs × Bs × Bool) ⊕ (Bs × Bs × Bool × (List (Bs × Bs)))
abbrev x56t2 : Type := Bs → Bs → Bs → Bs → Bs → (List (Bs × Int × Bool × Bs)) → Option R_media_parse
abbrev x56t1 : Type := Bs → Bs → Bs → Bs → Bs → Option R_media_parse
abbrev x56t0 : Type := Bool → Bs → Bs → Bs → Bs → Bs → Option R_media_parse
def F_media_parse_b2 (fu : Nat) (r2 : x56t2) : x56t2 := fun m32_0 m32_1 m33 m34_0 m34_1 m35 => (F_media_reader_sign fu (59 : UInt8) m33).bind fun x1 => bif x1.1 then (F_media_reader_read fu x1.2).bind fun x2 => bif !x2.2.1 then some (.inl (m34_0, (m34_1, false))) else bif decide (List.length (m35 ++ ([x2.1] : List (Bs × Int × Bool × Bs))) ≤ rowMax) then r2 m32_0 m32_1 x2.2.2 m34_0 m34_1 (m35 ++ ([x2.1] : List (Bs × Int × Bool × Bs))) else none else (F_media_reader_blanks fu x1.2).bind fun x3 => (F_media_params fu m35).bind fun x4 => bif x4.1 then some (.inr (m34_0, (m34_1, (x3 == ([] : Bs), x4.2)))) else some (.inr (m34_0, (m34_1, (false, x4.2))))
def F_media_parse_p2 (fu : Nat) : Nat → x56t2 | 0 => fun _ _ _ _ _ _ => none | n + 1 => F_media_parse_b2 fu (F_media_parse_p2 fu n)
def F_media_parse_p1 (fu : Nat) : x56t1 := fun m32_0 m32_1 m33 m34_0 m34_1 => F_media_parse_p2 fu fu m32_0 m32_1 m33 m34_0 m34_1 []
def F_media_parse_p0 (fu : Nat) : x56t0 := fun s33 m32_0 m32_1 m33 m34_0 m34_1 => bif s33 then some (.inl (m34_0, (m34_1, false))) else F_media_parse_p1 fu m32_0 m32_1 m33 m34_0 m34_1
def F_media_parse (fu : Nat) (p0 : Bs) : Option R_media_parse := (F_media_reader_take fu p0).bind fun x1 => (F_media_reader_sign fu (47 : UInt8) x1.2).bind fun x2 => (F_media_reader_take fu x2.2).bind fun x3 => bif x1.1 == ([] : Bs) then F_media_parse_p0 fu true ([] : Bs) ([] : Bs) x3.2 x1.1 x3.1 else bif !x2.1 then F_media_parse_p0 fu true ([] : Bs) ([] : Bs) x3.2 x1.1 x3.1 else F_media_parse_p0 fu (x3.1 == ([] : Bs)) ([] : Bs) ([] : Bs) x3.2 x1.1 x3.1
/- posthouse/basic.All -/
abbrev x57t0 : Type := Bs → Int → Int → Option Bool
def F_basic_All_v1_b0 (fu : Nat) (r0 : x57t0) : x57t0 := fun s0 s7 s8 => bif decide (s8 < s7) then (idx s0 s8).bind fun c1 => (F_media_tokenByte c1).bind fun x2 => bif !x2 then some false else r0 s0 s7 (w64 (s8 + (1 : Int))) else some true
def F_basic_All_v1_p0 (fu : Nat) : Nat → x57t0 | 0 => fun _ _ _ => none | n + 1 => F_basic_All_v1_b0 fu (F_basic_All_v1_p0 fu n)
def F_basic_All_v1 (fu : Nat) (p0 : Bs) : Option Bool := F_basic_All_v1_p0 fu fu p0 (List.length p0 : Int) (0 : Int)
/- posthouse/media.token -/
def F_media_token (fu : Nat) (p0 : Bs) : Option Bool := bif !(p0 == ([] : Bs)) then bif decide ((List.length p0 : Int) ≤ (60 : Int)) then (F_basic_All_v1 fu p0).bind fun x1 => some x1 else some false else some false
/- posthouse/media.Validate$1 -/
def F_media_Validate_1 (fu : Nat) (p0 : Bs × Bs) (p1 : Bs × Bs) : Option (Bool × (Bs × Bs)) := (F_basic_Same fu p0.1 p1.1).bind fun x1 => some (x1, p1)
/- slices.IndexFunc[[]posthouse/api.Param,posthouse/api.Param] -/
abbrev x60t0 : Type := (List (Bs × Bs)) → Int → Int → (Bs × Bs) → Option (Int × (Bs × Bs))
def F_slices_IndexFunc_api_Param_api_Param_b0 (fu : Nat) (r0 : x60t0) : x60t0 := fun s0 s7 s8 m0 => bif decide (s8 < s7) then (idx s0 s8).bind fun y1 => (F_media_Validate_1 fu y1 m0).bind fun x2 => bif x2.1 then some (s8, x2.2) else r0 s0 s7 (w64 (s8 + (1 : Int))) x2.2 else some ((-1 : Int), m0)
def F_slices_IndexFunc_api_Param_api_Param_p0 (fu : Nat) : Nat → x60t0 | 0 => fun _ _ _ _ => none | n + 1 => F_slices_IndexFunc_api_Param_api_Param_b0 fu (F_slices_IndexFunc_api_Param_api_Param_p0 fu n)
def F_slices_IndexFunc_api_Param_api_Param (fu : Nat) (p0 : List (Bs × Bs)) (p1 : Bs × Bs) : Option (Int × (Bs × Bs)) := F_slices_IndexFunc_api_Param_api_Param_p0 fu fu p0 (List.length p0 : Int) (0 : Int) p1
/- slices.ContainsFunc[[]posthouse/api.Param,posthouse/api.Param] -/
def F_slices_ContainsFunc_api_Param_api_Param (fu : Nat) (p0 : List (Bs × Bs)) (p1 : Bs × Bs) : Option (Bool × (Bs × Bs)) := (F_slices_IndexFunc_api_Param_api_Param fu p0 p1).bind fun x1 => some (decide ((0 : Int) ≤ x1.1), x1.2)
/- unicode/utf8.word[string] -/
def F_unicode_utf8_word_string (p0 : Bs) : Option Int := (idx p0 (0 : Int)).bind fun c1 => (idx p0 (1 : Int)).bind fun c2 => (idx p0 (2 : Int)).bind fun c3 => (idx p0 (3 : Int)).bind fun c4 => (idx p0 (4 : Int)).bind fun c5 => (idx p0 (5 : Int)).bind fun c6 => (idx p0 (6 : Int)).bind fun c7 => (idx p0 (7 : Int)).bind fun c8 => some (IntKind.u64.wrap (((BitVec.ofInt 64 (IntKind.u64.wrap (((BitVec.ofInt 64 (IntKind.u64.wrap (((BitVec.ofInt 64 (IntKind.u64.wrap (((BitVec.ofInt 64 (IntKind.u64.wrap (((BitVec.ofInt 64 (IntKind.u64.wrap (((BitVec.ofInt 64 (IntKind.u64.wrap (((BitVec.ofInt 64 (c1.toNat : Int) ||| BitVec.ofInt 64 (IntKind.u64.wrap ((c2.toNat : Int) * 2 ^ min (8 : Int).toNat 64))).toNat : Int))) ||| BitVec.ofInt 64 (IntKind.u64.wrap ((c3.toNat : Int) * 2 ^ min (16 : Int).toNat 64))).toNat : Int))) ||| BitVec.ofInt 64 (IntKind.u64.wrap ((c4.toNat : Int) * 2 ^ min (24 : Int).toNat 64))).toNat : Int))) ||| BitVec.ofInt 64 (IntKind.u64.wrap ((c5.toNat : Int) * 2 ^ min (32 : Int).toNat 64))).toNat : Int))) ||| BitVec.ofInt 64 (IntKind.u64.wrap ((c6.toNat : Int) * 2 ^ min (40 : Int).toNat 64))).toNat : Int))) ||| BitVec.ofInt 64 (IntKind.u64.wrap ((c7.toNat : Int) * 2 ^ min (48 : Int).toNat 64))).toNat : Int))) ||| BitVec.ofInt 64 (IntKind.u64.wrap ((c8.toNat : Int) * 2 ^ min (56 : Int).toNat 64))).toNat : Int)))
/- unicode/utf8.ValidString -/
abbrev x63t5 : Type := Bs → Option Bool
abbrev x63t4 : Type := Bs → Bool → Option Bool
abbrev x63t3 : Type := Bs → Option Bool
abbrev x63t2 : Type := Bs → Bool → Option Bool
abbrev x63t1 : Type := Bs → Bool → Option Bool
abbrev x63t0 : Type := Bs → Option Bool
def F_unicode_utf8_ValidString_p5 (fu : Nat) (r0 : x63t0) (r3 : x63t3) : x63t5 := fun s0 => bif decide (0 ≤ (32 : Int) ∧ (32 : Int) ≤ (List.length s0 : Int)) then r3 (List.drop (32 : Int).toNat s0) else none
def F_unicode_utf8_ValidString_p4 (fu : Nat) (r0 : x63t0) (r3 : x63t3) : x63t4 := fun s0 s62 => bif s62 then F_unicode_utf8_ValidString_p5 fu r0 r3 s0 else r0 s0
def F_unicode_utf8_ValidString_b3 (fu : Nat) (r0 : x63t0) (r3 : x63t3) : x63t3 := fun s0 => bif decide ((32 : Int) < (List.length s0 : Int)) then (F_unicode_utf8_word_string s0).bind fun x1 => bif decide (0 ≤ (8 : Int) ∧ (8 : Int) ≤ (List.length s0 : Int)) then (F_unicode_utf8_word_string (List.drop (8 : Int).toNat s0)).bind fun x2 => bif decide (0 ≤ (16 : Int) ∧ (16 : Int) ≤ (List.length s0 : Int)) then (F_unicode_utf8_word_string (List.drop (16 : Int).toNat s0)).bind fun x3 => bif decide (0 ≤ (24 : Int) ∧ (24 : Int) ≤ (List.length s0 : Int)) then (F_unicode_utf8_word_string (List.drop (24 : Int).toNat s0)).bind fun x4 => F_unicode_utf8_ValidString_p4 fu r0 r3 s0 ((IntKind.u64.wrap (((BitVec.ofInt 64 (IntKind.u64.wrap (((BitVec.ofInt 64 (IntKind.u64.wrap (((BitVec.ofInt 64 x1 ||| BitVec.ofInt 64 x2).toNat : Int))) ||| BitVec.ofInt 64 (IntKind.u64.wrap (((BitVec.ofInt 64 x3 ||| BitVec.ofInt 64 x4).toNat : Int)))).toNat : Int))) &&& BitVec.ofInt 64 (9259542123273814144 : Int)).toNat : Int))) == (0 : Int)) else none else none else none else F_unicode_utf8_ValidString_p4 fu r0 r3 s0 false
def F_unicode_utf8_ValidString_p3 (fu : Nat) (r0 : x63t0) : Nat → x63t3 | 0 => fun _ => none | n + 1 => F_unicode_utf8_ValidString_b3 fu r0 (F_unicode_utf8_ValidString_p3 fu r0 n)
def F_unicode_utf8_ValidString_p2 (fu : Nat) (r0 : x63t0) : x63t2 := fun s0 s39 => bif s39 then bif decide (0 ≤ (16 : Int) ∧ (16 : Int) ≤ (List.length s0 : Int)) then F_unicode_utf8_ValidString_p3 fu r0 fu (List.drop (16 : Int).toNat s0) else none else r0 s0
def F_unicode_utf8_ValidString_p1 (fu : Nat) (r0 : x63t0) : x63t1 := fun s0 s24 => bif s24 then bif decide (0 ≤ (8 : Int) ∧ (8 : Int) ≤ (List.length s0 : Int)) then bif decide ((16 : Int) < (List.length (List.drop (8 : Int).toNat s0) : Int)) then (F_unicode_utf8_word_string (List.drop (8 : Int).toNat s0)).bind fun x1 => bif decide (0 ≤ (8 : Int) ∧ (8 : Int) ≤ (List.length (List.drop (8 : Int).toNat s0) : Int)) then (F_unicode_utf8_word_string (List.drop (8 : Int).toNat (List.drop (8 : Int).toNat s0))).bind fun x2 => F_unicode_utf8_ValidString_p2 fu r0 (List.drop (8 : Int).toNat s0) ((IntKind.u64.wrap (((BitVec.ofInt 64 (IntKind.u64.wrap (((BitVec.ofInt 64 x1 ||| BitVec.ofInt 64 x2).toNat : Int))) &&& BitVec.ofInt 64 (9259542123273814144 : Int)).toNat : Int))) == (0 : Int)) else none else F_unicode_utf8_ValidString_p2 fu r0 (List.drop (8 : Int).toNat s0) false else none else r0 s0
def F_unicode_utf8_ValidString_b0 (fu : Nat) (r0 : x63t0) : x63t0 := fun s0 => bif decide ((0 : Int) < (List.length s0 : Int)) then (idx s0 (0 : Int)).bind fun c1 => bif decide (c1 < (128 : UInt8)) then bif decide (0 ≤ (1 : Int) ∧ (1 : Int) ≤ (List.length s0 : Int)) then bif decide ((8 : Int) < (List.length (List.drop (1 : Int).toNat s0) : Int)) then (F_unicode_utf8_word_string (List.drop (1 : Int).toNat s0)).bind fun x2 => F_unicode_utf8_ValidString_p1 fu r0 (List.drop (1 : Int).toNat s0) ((IntKind.u64.wrap (((BitVec.ofInt 64 x2 &&& BitVec.ofInt 64 (9259542123273814144 : Int)).toNat : Int))) == (0 : Int)) else F_unicode_utf8_ValidString_p1 fu r0 (List.drop (1 : Int).toNat s0) false else none else (tab0[c1.toNat]?).bind fun y3 => (tab1[(u8shr y3 (min (4 : Int).toNat 8)).toNat]?).bind fun y4 => bif ((y3 &&& (7 : UInt8)).toNat : Int) == (2 : Int) then bif decide ((List.length s0 : Int) < (2 : Int)) then some false else (idx s0 (1 : Int)).bind fun c5 => bif decide (c5 < y4.1) then some false else (idx s0 (1 : Int)).bind fun c6 => bif decide (y4.2 < c6) then some false else bif decide (0 ≤ (2 : Int) ∧ (2 : Int) ≤ (List.length s0 : Int)) then r0 (List.drop (2 : Int).toNat s0) else none else bif ((y3 &&& (7 : UInt8)).toNat : Int) == (3 : Int) then bif decide ((List.length s0 : Int) < (3 : Int)) then some false else (idx s0 (1 : Int)).bind fun c7 => bif decide (c7 < y4.1) then some false else (idx s0 (1 : Int)).bind fun c8 => bif decide (y4.2 < c8) then some false else (idx s0 (2 : Int)).bind fun c9 => bif decide (c9 < (128 : UInt8)) then some false else (idx s0 (2 : Int)).bind fun c10 => bif decide ((191 : UInt8) < c10) then some false else bif decide (0 ≤ (3 : Int) ∧ (3 : Int) ≤ (List.length s0 : Int)) then r0 (List.drop (3 : Int).toNat s0) else none else bif ((y3 &&& (7 : UInt8)).toNat : Int) == (4 : Int) then bif decide ((List.length s0 : Int) < (4 : Int)) then some false else (idx s0 (1 : Int)).bind fun c11 => bif decide (c11 < y4.1) then some false else (idx s0 (1 : Int)).bind fun c12 => bif decide (y4.2 < c12) then some false else (idx s0 (2 : Int)).bind fun c13 => bif decide (c13 < (128 : UInt8)) then some false else (idx s0 (2 : Int)).bind fun c14 => bif decide ((191 : UInt8) < c14) then some false else (idx s0 (3 : Int)).bind fun c15 => bif decide (c15 < (128 : UInt8)) then some false else (idx s0 (3 : Int)).bind fun c16 => bif decide ((191 : UInt8) < c16) then some false else bif decide (0 ≤ (4 : Int) ∧ (4 : Int) ≤ (List.length s0 : Int)) then r0 (List.drop (4 : Int).toNat s0) else none else some false else some true
def F_unicode_utf8_ValidString_p0 (fu : Nat) : Nat → x63t0 | 0 => fun _ => none | n + 1 => F_unicode_utf8_ValidString_b0 fu (F_unicode_utf8_ValidString_p0 fu n)
def F_unicode_utf8_ValidString (fu : Nat) (p0 : Bs) : Option Bool := F_unicode_utf8_ValidString_p0 fu fu p0
/- posthouse/media.Validate -/
abbrev x64t3 : Type := Int → (List (Bs × Bs)) → Int → Int → Bool → (Bs × Bs × (List (Bs × Bs))) → (Int × Int) → (Bs × Bs) → Option ((Int × Int))
abbrev x64t2 : Type := (List (Bs × Bs)) → Int → Int → (Bs × Bs × (List (Bs × Bs))) → (Int × Int) → Option ((Int × Int))
abbrev x64t1 : Type := (Bs × Bs × (List (Bs × Bs))) → (Int × Int) → Option ((Int × Int))
abbrev x64t0 : Type := Bool → (Bs × Bs × (List (Bs × Bs))) → (Int × Int) → Option ((Int × Int))
def F_media_Validate_p3 (fu : Nat) (r2 : x64t2) : x64t3 := fun s3 s22 s23 s24 s29 m32 m33 m34 => bif s29 then (F_basic_Fault (10 : Int) s3).bind fun x1 => some x1 else bif decide (0 ≤ s3 ∧ s3 ≤ (List.length m32.2.2 : Int)) then (F_slices_ContainsFunc_api_Param_api_Param fu (List.take s3.toNat m32.2.2) m34).bind fun x2 => bif x2.1 then (F_basic_Fault (7 : Int) s3).bind fun x3 => some x3 else bif decide ((500 : Int) < (List.length x2.2.2 : Int)) then (F_basic_Fault (1 : Int) s3).bind fun x4 => some x4 else (F_unicode_utf8_ValidString fu x2.2.2).bind fun x5 => bif !x5 then (F_basic_Fault (5 : Int) s3).bind fun x6 => some x6 else r2 s22 s23 (w64 (s24 + (1 : Int))) m32 m33 else none
def F_media_Validate_b2 (fu : Nat) (r2 : x64t2) : x64t2 := fun s22 s23 s24 m32 m33 => bif decide (s24 < s23) then (idx s22 s24).bind fun y1 => (F_media_token fu y1.1).bind fun x2 => bif !x2 then F_media_Validate_p3 fu r2 s24 s22 s23 s24 true m32 m33 y1 else F_media_Validate_p3 fu r2 s24 s22 s23 s24 (decide ((20 : Int) < (List.length y1.1 : Int))) m32 m33 y1 else (F_basic_None).bind fun x3 => some x3
def F_media_Validate_p2 (fu : Nat) : Nat → x64t2 | 0 => fun _ _ _ _ _ => none | n + 1 => F_media_Validate_b2 fu (F_media_Validate_p2 fu n)
def F_media_Validate_p1 (fu : Nat) : x64t1 := fun m32 m33 => bif decide ((60 : Int) < (List.length m32.2.2 : Int)) then (F_basic_Fault (2 : Int) (-3 : Int)).bind fun x1 => some x1 else F_media_Validate_p2 fu fu m32.2.2 (List.length m32.2.2 : Int) (0 : Int) m32 m33
def F_media_Validate_p0 (fu : Nat) : x64t0 := fun s14 m32 m33 => bif s14 then (F_basic_Fault (10 : Int) (-2 : Int)).bind fun x1 => some x1 else F_media_Validate_p1 fu m32 m33
def F_media_Validate (fu : Nat) (p0 : Bs × Bs × (List (Bs × Bs))) : Option ((Int × Int)) := (F_media_token fu p0.1).bind fun x1 => bif !x1 then F_media_Validate_p0 fu true p0 ((0 : Int), (0 : Int)) else (F_media_token fu p0.2.1).bind fun x2 => F_media_Validate_p0 fu (!x2) p0 ((0 : Int), (0 : Int))
/- posthouse/media.Parse -/
abbrev R_media_Parse : Type := (Bs × Bs × Int × Int) ⊕ (Bs × Bs × Int × Int × (List (Bs × Bs)))
def F_media_Parse (fu : Nat) (p0 : Bs) : Option R_media_Parse := bif decide ((4000 : Int) < (List.length p0 : Int)) then (F_basic_Fault (1 : Int) (-1 : Int)).bind fun x1 => some (.inl (([] : Bs), (([] : Bs), x1))) else (F_media_parse fu p0).bind fun x2 => sumK x2 (fun a3 => bif !a3.2.2 then (F_basic_Fault (11 : Int) (-5 : Int)).bind fun x5 => some (.inl (([] : Bs), (([] : Bs), x5))) else (F_media_Validate fu (a3.1, (a3.2.1, []))).bind fun x6 => (F_basic_Failed x6).bind fun x7 => bif x7 then (F_basic_Fault x6.1 (-6 : Int)).bind fun x8 => some (.inl (([] : Bs), (([] : Bs), x8))) else (F_basic_None).bind fun x9 => some (.inl (a3.1, (a3.2.1, x9)))) (fun b4 => bif !b4.2.2.1 then (F_basic_Fault (11 : Int) (-5 : Int)).bind fun x10 => some (.inl (([] : Bs), (([] : Bs), x10))) else (F_media_Validate fu (b4.1, (b4.2.1, b4.2.2.2))).bind fun x11 => (F_basic_Failed x11).bind fun x12 => bif x12 then (F_basic_Fault x11.1 (-6 : Int)).bind fun x13 => some (.inl (([] : Bs), (([] : Bs), x13))) else (F_basic_None).bind fun x14 => some (.inr (b4.1, (b4.2.1, (x14.1, (x14.2, b4.2.2.2))))))
/- posthouse/parts.Type -/
abbrev R_parts_Type : Type := (Bs × Bs × Int × Bool) ⊕ (Bs × Bs × Int × Bool × (List (Bs × Bs)))
abbrev x66t1 : Type := (List (Bs × Bs)) → Int → (List (Bs × Bs)) → Int → Int → Bs → Bs → Option R_parts_Type
abbrev x66t0 : Type := (List (Bs × Bs)) → Int → (List (Bs × Bs)) → Int → Int → Bs → Bs → Option R_parts_Type
def F_parts_Type_p1 (fu : Nat) (r0 : x66t0) : x66t1 := fun s0 s5 s10 s11 s12 m32_0 m32_1 => r0 s0 s5 s10 s11 (w64 (s12 + (1 : Int))) m32_0 m32_1
def F_parts_Type_b0 (fu : Nat) (r0 : x66t0) : x66t0 := fun s0 s5 s10 s11 s12 m32_0 m32_1 => bif decide (s12 < s11) then (idx s10 s12).bind fun y1 => (F_basic_Same fu y1.1 ([67, 111, 110, 116, 101, 110, 116, 45, 84, 121, 112, 101] : Bs)).bind fun x2 => bif x2 then bif decide ((0 : Int) ≤ s5) then some (.inl (([] : Bs), (([] : Bs), ((0 : Int), false)))) else F_parts_Type_p1 fu r0 s0 s12 s10 s11 s12 m32_0 m32_1 else F_parts_Type_p1 fu r0 s0 s5 s10 s11 s12 m32_0 m32_1 else bif decide (s5 < (0 : Int)) then some (.inl (([] : Bs), (([] : Bs), ((0 : Int), false)))) else (idx s0 s5).bind fun y3 => (F_media_Parse fu y3.2).bind fun x4 => sumK x4 (fun a5 => (F_basic_Failed a5.2.2).bind fun x7 => some (.inl (a5.1, (a5.2.1, (s5, !x7))))) (fun b6 => (F_basic_Failed (b6.2.2.1, b6.2.2.2.1)).bind fun x8 => some (.inr (b6.1, (b6.2.1, (s5, (!x8, b6.2.2.2.2))))))
def F_parts_Type_p0 (fu : Nat) : Nat → x66t0 | 0 => fun _ _ _ _ _ _ _ => none | n + 1 => F_parts_Type_b0 fu (F_parts_Type_p0 fu n)
def F_parts_Type (fu : Nat) (p0 : List (Bs × Bs)) : Option R_parts_Type := F_parts_Type_p0 fu fu p0 (-1 : Int) p0 (List.length p0 : Int) (0 : Int) ([] : Bs) ([] : Bs)
/- posthouse/media.Param -/
abbrev x67t0 : Type := Bs → (List (Bs × Bs)) → Int → Int → (Int × Int) → Option (Bs × Bool × (Int × Int))
def F_media_Param_b0 (fu : Nat) (r0 : x67t0) : x67t0 := fun s1 s16 s17 s18 m32 => bif decide (s18 < s17) then (idx s16 s18).bind fun y1 => (F_basic_Same fu y1.1 s1).bind fun x2 => bif x2 then (F_basic_None).bind fun x3 => some (y1.2, (true, x3)) else r0 s1 s16 s17 (w64 (s18 + (1 : Int))) m32 else (F_basic_None).bind fun x4 => some (([] : Bs), (false, x4))
def F_media_Param_p0 (fu : Nat) : Nat → x67t0 | 0 => fun _ _ _ _ _ => none | n + 1 => F_media_Param_b0 fu (F_media_Param_p0 fu n)
def F_media_Param (fu : Nat) (p0 : Bs × Bs × (List (Bs × Bs))) (p1 : Bs) : Option (Bs × Bool × (Int × Int)) := (F_media_Validate fu p0).bind fun x1 => (F_basic_Failed x1).bind fun x2 => bif x2 then some (([] : Bs), (false, x1)) else F_media_Param_p0 fu fu p1 p0.2.2 (List.length p0.2.2 : Int) (0 : Int) ((0 : Int), (0 : Int))
/- posthouse/parts.whole -/
abbrev x68t1 : Type := Int → (Tree ((List (Bs × Bs)) × Bs)) → Bs → Bs → (List (Bs × Bs)) → Option Int
abbrev x68t0 : Type := Int → Bool → (Tree ((List (Bs × Bs)) × Bs)) → Bs → Bs → (List (Bs × Bs)) → Option Int
def F_parts_whole_p1 (fu : Nat) : x68t1 := fun s4 m32 m33_0 m33_1 m34 => (F_media_Param fu (m33_0, (m33_1, m34)) ([98, 111, 117, 110, 100, 97, 114, 121] : Bs)).bind fun x1 => none
def F_parts_whole_p0 (fu : Nat) : x68t0 := fun s4 s31 m32 m33_0 m33_1 m34 => bif s31 then some (5 : Int) else F_parts_whole_p1 fu s4 (Tree.node m32.val m32.kids) m33_0 m33_1 m34
def F_parts_whole (fu : Nat) (p0 : Tree ((List (Bs × Bs)) × Bs)) : Option Int := (F_parts_Type fu p0.val.1).bind fun x1 => sumK x1 (fun a2 => bif decide ((0 : Int) < (List.length p0.val.2 : Int)) then F_parts_whole_p0 fu a2.2.2.1 true (Tree.node p0.val p0.kids) a2.1 a2.2.1 [] else bif !a2.2.2.2 then F_parts_whole_p0 fu a2.2.2.1 true (Tree.node p0.val p0.kids) a2.1 a2.2.1 [] else (F_basic_Same fu a2.1 ([109, 117, 108, 116, 105, 112, 97, 114, 116] : Bs)).bind fun x4 => F_parts_whole_p0 fu a2.2.2.1 (!x4) (Tree.node p0.val p0.kids) a2.1 a2.2.1 []) (fun b3 => bif decide ((0 : Int) < (List.length p0.val.2 : Int)) then F_parts_whole_p0 fu b3.2.2.1 true (Tree.node p0.val p0.kids) b3.1 b3.2.1 b3.2.2.2.2 else bif !b3.2.2.2.1 then F_parts_whole_p0 fu b3.2.2.1 true (Tree.node p0.val p0.kids) b3.1 b3.2.1 b3.2.2.2.2 else (F_basic_Same fu b3.1 ([109, 117, 108, 116, 105, 112, 97, 114, 116] : Bs)).bind fun x5 => F_parts_whole_p0 fu b3.2.2.1 (!x5) (Tree.node p0.val p0.kids) b3.1 b3.2.1 b3.2.2.2.2)
/- posthouse/basic.Body -/
abbrev x69t2 : Type := Bs → Int → Int → UInt8 → Option Int
abbrev x69t1 : Type := Bs → Int → Int → UInt8 → Bool → Option Int
abbrev x69t0 : Type := Bs → Int → Int → Option Int
def F_basic_Body_p2 (fu : Nat) (r0 : x69t0) : x69t2 := fun s0 s3 s4 s5 => bif s5 == (13 : UInt8) then some (11 : Int) else bif s5 == (10 : UInt8) then some (11 : Int) else bif decide ((998 : Int) < (w64 (s3 + (1 : Int)))) then some (1 : Int) else r0 s0 (w64 (s3 + (1 : Int))) (w64 (s4 + (1 : Int)))
def F_basic_Body_p1 (fu : Nat) (r0 : x69t0) : x69t1 := fun s0 s3 s4 s5 s32 => bif s32 then r0 s0 (0 : Int) (w64 ((w64 (s4 + (1 : Int))) + (1 : Int))) else F_basic_Body_p2 fu r0 s0 s3 s4 s5
def F_basic_Body_b0 (fu : Nat) (r0 : x69t0) : x69t0 := fun s0 s3 s4 => bif decide (s4 < (List.length s0 : Int)) then (idx s0 s4).bind fun y1 => bif y1 == (13 : UInt8) then bif decide ((w64 (s4 + (1 : Int))) < (List.length s0 : Int)) then (idx s0 (w64 (s4 + (1 : Int)))).bind fun y2 => F_basic_Body_p1 fu r0 s0 s3 s4 y1 (y2 == (10 : UInt8)) else F_basic_Body_p1 fu r0 s0 s3 s4 y1 false else F_basic_Body_p1 fu r0 s0 s3 s4 y1 false else some (0 : Int)
def F_basic_Body_p0 (fu : Nat) : Nat → x69t0 | 0 => fun _ _ _ => none | n + 1 => F_basic_Body_b0 fu (F_basic_Body_p0 fu n)
def F_basic_Body (fu : Nat) (p0 : Bs) : Option Int := F_basic_Body_p0 fu fu p0 (0 : Int) (0 : Int)
/- posthouse/parts.boundary$1 -/
def F_parts_boundary_1 (p0 : UInt8) : Option Bool := bif decide ((32 : UInt8) ≤ p0) then some (decide (p0 ≤ (126 : UInt8))) else some false
/- posthouse/basic.All -/
abbrev x71t0 : Type := Bs → Int → Int → Option Bool
def F_basic_All_v2_b0 (fu : Nat) (r0 : x71t0) : x71t0 := fun s0 s7 s8 => bif decide (s8 < s7) then (idx s0 s8).bind fun c1 => (F_parts_boundary_1 c1).bind fun x2 => bif !x2 then some false else r0 s0 s7 (w64 (s8 + (1 : Int))) else some true
def F_basic_All_v2_p0 (fu : Nat) : Nat → x71t0 | 0 => fun _ _ _ => none | n + 1 => F_basic_All_v2_b0 fu (F_basic_All_v2_p0 fu n)
def F_basic_All_v2 (fu : Nat) (p0 : Bs) : Option Bool := F_basic_All_v2_p0 fu fu p0 (List.length p0 : Int) (0 : Int)
/- strings.HasSuffix -/
def F_strings_HasSuffix (p0 : Bs) (p1 : Bs) : Option Bool := (F_internal_stringslite_HasSuffix p0 p1).bind fun x1 => some x1
/- posthouse/parts.boundary -/
abbrev x73t1 : Type := Bs → Bs → (List (Bs × Bs)) → Option (Bs × Bool)
abbrev x73t0 : Type := Bool → Bs → Bs → (List (Bs × Bs)) → Option (Bs × Bool)
def F_parts_boundary_p1 (fu : Nat) : x73t1 := fun m32_0 m32_1 m33 => (F_media_Param fu (m32_0, (m32_1, m33)) ([98, 111, 117, 110, 100, 97, 114, 121] : Bs)).bind fun x1 => bif !(x1.1 == ([] : Bs)) then bif decide ((List.length x1.1 : Int) ≤ (60 : Int)) then (F_basic_All_v2 fu x1.1).bind fun x2 => bif x2 then (F_strings_HasSuffix x1.1 ([32] : Bs)).bind fun x3 => bif x1.2.1 then some (x1.1, !x3) else some (x1.1, false) else bif x1.2.1 then some (x1.1, false) else some (x1.1, false) else bif x1.2.1 then some (x1.1, false) else some (x1.1, false) else bif x1.2.1 then some (x1.1, false) else some (x1.1, false)
def F_parts_boundary_p0 (fu : Nat) : x73t0 := fun s24 m32_0 m32_1 m33 => bif s24 then some (([] : Bs), false) else F_parts_boundary_p1 fu m32_0 m32_1 m33
def F_parts_boundary (fu : Nat) (p0 : List (Bs × Bs)) : Option (Bs × Bool) := (F_parts_Type fu p0).bind fun x1 => sumK x1 (fun a2 => bif !a2.2.2.2 then F_parts_boundary_p0 fu true a2.1 a2.2.1 [] else (F_basic_Same fu a2.1 ([109, 117, 108, 116, 105, 112, 97, 114, 116] : Bs)).bind fun x4 => F_parts_boundary_p0 fu (!x4) a2.1 a2.2.1 []) (fun b3 => bif !b3.2.2.2.1 then F_parts_boundary_p0 fu true b3.1 b3.2.1 b3.2.2.2.2 else (F_basic_Same fu b3.1 ([109, 117, 108, 116, 105, 112, 97, 114, 116] : Bs)).bind fun x5 => F_parts_boundary_p0 fu (!x5) b3.1 b3.2.1 b3.2.2.2.2)
/- posthouse/parts.lines -/
def F_parts_lines (p0 : Bs) : Option (Bs) := some p0
/- strings.trimRightByte -/
abbrev x75t0 : Type := Bs → UInt8 → Option (Bs)
def F_strings_trimRightByte_b0 (fu : Nat) (r0 : x75t0) : x75t0 := fun s0 s1 => bif decide ((0 : Int) < (List.length s0 : Int)) then (idx s0 (w64 ((List.length s0 : Int) - (1 : Int)))).bind fun c1 => bif c1 == s1 then bif decide (0 ≤ w64 ((List.length s0 : Int) - (1 : Int)) ∧ w64 ((List.length s0 : Int) - (1 : Int)) ≤ (List.length s0 : Int)) then r0 (List.take (w64 ((List.length s0 : Int) - (1 : Int))).toNat s0) s1 else none else some s0 else some s0
def F_strings_trimRightByte_p0 (fu : Nat) : Nat → x75t0 | 0 => fun _ _ => none | n + 1 => F_strings_trimRightByte_b0 fu (F_strings_trimRightByte_p0 fu n)
def F_strings_trimRightByte (fu : Nat) (p0 : Bs) (p1 : UInt8) : Option (Bs) := F_strings_trimRightByte_p0 fu fu p0 p1
/- strings.trimRightASCII -/
abbrev x76t0 : Type := Bs → (List Bool) → Option (Bs × (List Bool))
def F_strings_trimRightASCII_b0 (fu : Nat) (r0 : x76t0) : x76t0 := fun s0 m0 => bif decide ((0 : Int) < (List.length s0 : Int)) then (idx s0 (w64 ((List.length s0 : Int) - (1 : Int)))).bind fun c1 => (F_strings_asciiSet_contains c1 m0).bind fun x2 => bif !x2.1 then some (s0, x2.2) else bif decide (0 ≤ w64 ((List.length s0 : Int) - (1 : Int)) ∧ w64 ((List.length s0 : Int) - (1 : Int)) ≤ (List.length s0 : Int)) then r0 (List.take (w64 ((List.length s0 : Int) - (1 : Int))).toNat s0) x2.2 else none else some (s0, m0)
def F_strings_trimRightASCII_p0 (fu : Nat) : Nat → x76t0 | 0 => fun _ _ => none | n + 1 => F_strings_trimRightASCII_b0 fu (F_strings_trimRightASCII_p0 fu n)
def F_strings_trimRightASCII (fu : Nat) (p0 : Bs) (p1 : List Bool) : Option (Bs × (List Bool)) := F_strings_trimRightASCII_p0 fu fu p0 p1
/- unicode/utf8.RuneStart -/
def F_unicode_utf8_RuneStart (p0 : UInt8) : Option Bool := some ((p0 &&& (192 : UInt8)) != (128 : UInt8))
/- unicode/utf8.DecodeLastRuneInString -/
abbrev x78t2 : Type := Bs → Int → Int → Option (Int × Int)
abbrev x78t1 : Type := Bs → Int → Int → Option (Int × Int)
abbrev x78t0 : Type := Bs → Int → Int → Int → Option (Int × Int)
def F_unicode_utf8_DecodeLastRuneInString_p2 (fu : Nat) : x78t2 := fun s0 s4 s5 => bif decide (0 ≤ s5 ∧ s5 ≤ s4 ∧ s4 ≤ (List.length s0 : Int)) then (F_unicode_utf8_DecodeRuneInString (List.take (s4.toNat - s5.toNat) (List.drop s5.toNat s0))).bind fun x1 => bif (w64 (s5 + x1.2)) != s4 then some ((65533 : Int), (1 : Int)) else some x1 else none
def F_unicode_utf8_DecodeLastRuneInString_p1 (fu : Nat) : x78t1 := fun s0 s4 s5 => bif decide (s5 < (0 : Int)) then F_unicode_utf8_DecodeLastRuneInString_p2 fu s0 s4 (0 : Int) else F_unicode_utf8_DecodeLastRuneInString_p2 fu s0 s4 s5
def F_unicode_utf8_DecodeLastRuneInString_b0 (fu : Nat) (r0 : x78t0) : x78t0 := fun s0 s4 s5 s6 => bif decide (s6 ≤ s5) then (idx s0 s5).bind fun c1 => (F_unicode_utf8_RuneStart c1).bind fun x2 => bif x2 then F_unicode_utf8_DecodeLastRuneInString_p1 fu s0 s4 s5 else r0 s0 s4 (w64 (s5 - (1 : Int))) s6 else F_unicode_utf8_DecodeLastRuneInString_p1 fu s0 s4 s5
def F_unicode_utf8_DecodeLastRuneInString_p0 (fu : Nat) : Nat → x78t0 | 0 => fun _ _ _ _ => none | n + 1 => F_unicode_utf8_DecodeLastRuneInString_b0 fu (F_unicode_utf8_DecodeLastRuneInString_p0 fu n)
def F_unicode_utf8_DecodeLastRuneInString (fu : Nat) (p0 : Bs) : Option (Int × Int) := bif (List.length p0 : Int) == (0 : Int) then some ((65533 : Int), (0 : Int)) else (idx p0 (w64 ((List.length p0 : Int) - (1 : Int)))).bind fun c1 => bif decide ((c1.toNat : Int) < (128 : Int)) then some ((c1.toNat : Int), (1 : Int)) else F_unicode_utf8_DecodeLastRuneInString_p0 fu fu p0 (List.length p0 : Int) (w64 ((w64 ((List.length p0 : Int) - (1 : Int))) - (1 : Int))) (if (0 : Int) > w64 ((List.length p0 : Int) - (4 : Int)) then (0 : Int) else w64 ((List.length p0 : Int) - (4 : Int)))
/- strings.trimRightUnicode -/
abbrev x79t0 : Type := Bs → Bs → Option (Bs)
def F_strings_trimRightUnicode_b0 (fu : Nat) (r0 : x79t0) : x79t0 := fun s0 s1 => bif decide ((0 : Int) < (List.length s0 : Int)) then (idx s0 (w64 ((List.length s0 : Int) - (1 : Int)))).bind fun c1 => bif decide ((128 : Int) ≤ (c1.toNat : Int)) then (F_unicode_utf8_DecodeLastRuneInString fu s0).bind fun x2 => (F_strings_ContainsRune fu s1 x2.1).bind fun x3 => bif !x3 then some s0 else bif decide (0 ≤ w64 ((List.length s0 : Int) - x2.2) ∧ w64 ((List.length s0 : Int) - x2.2) ≤ (List.length s0 : Int)) then r0 (List.take (w64 ((List.length s0 : Int) - x2.2)).toNat s0) s1 else none else (F_strings_ContainsRune fu s1 (c1.toNat : Int)).bind fun x4 => bif !x4 then some s0 else bif decide (0 ≤ w64 ((List.length s0 : Int) - (1 : Int)) ∧ w64 ((List.length s0 : Int) - (1 : Int)) ≤ (List.length s0 : Int)) then r0 (List.take (w64 ((List.length s0 : Int) - (1 : Int))).toNat s0) s1 else none else some s0
def F_strings_trimRightUnicode_p0 (fu : Nat) : Nat → x79t0 | 0 => fun _ _ => none | n + 1 => F_strings_trimRightUnicode_b0 fu (F_strings_trimRightUnicode_p0 fu n)
def F_strings_trimRightUnicode (fu : Nat) (p0 : Bs) (p1 : Bs) : Option (Bs) := F_strings_trimRightUnicode_p0 fu fu p0 p1
/- strings.TrimRight -/
abbrev x80t3 : Type := Bs → Bs → Option (Bs)
abbrev x80t2 : Type := Bs → Bs → Bool → Option (Bs)
abbrev x80t1 : Type := Bs → Bs → Option (Bs)
abbrev x80t0 : Type := Bs → Bs → Bool → Option (Bs)
def F_strings_TrimRight_p3 (fu : Nat) : x80t3 := fun s0 s1 => (F_strings_makeASCIISet fu s1).bind fun x1 => bif decide (List.length x1.1 = List.length (List.replicate 256 false)) && decide (List.length x1.1 = 256) then bif x1.2 then (F_strings_trimRightASCII fu s0 x1.1).bind fun x2 => some x2.1 else (F_strings_trimRightUnicode fu s0 s1).bind fun x3 => some x3 else none
def F_strings_TrimRight_p2 (fu : Nat) : x80t2 := fun s0 s1 s21 => bif s21 then (idx s1 (0 : Int)).bind fun c1 => (F_strings_trimRightByte fu s0 c1).bind fun x2 => some x2 else F_strings_TrimRight_p3 fu s0 s1
def F_strings_TrimRight_p1 (fu : Nat) : x80t1 := fun s0 s1 => bif (List.length s1 : Int) == (1 : Int) then (idx s1 (0 : Int)).bind fun c1 => F_strings_TrimRight_p2 fu s0 s1 (decide (c1 < (128 : UInt8))) else F_strings_TrimRight_p2 fu s0 s1 false
def F_strings_TrimRight_p0 (fu : Nat) : x80t0 := fun s0 s1 s12 => bif s12 then some s0 else F_strings_TrimRight_p1 fu s0 s1
def F_strings_TrimRight (fu : Nat) (p0 : Bs) (p1 : Bs) : Option (Bs) := bif p0 == ([] : Bs) then F_strings_TrimRight_p0 fu p0 p1 true else F_strings_TrimRight_p0 fu p0 p1 (p1 == ([] : Bs))
/- posthouse/parts.kind -/
def F_parts_kind (fu : Nat) (p0 : Bs) (p1 : Bs) : Option Int := (F_strings_TrimRight fu p0 ([32, 9] : Bs)).bind fun x1 => bif decide (List.length ([45, 45] : Bs) + List.length p1 ≤ strMax) then bif x1 == (([45, 45] : Bs) ++ p1) then some (1 : Int) else bif decide (List.length ([45, 45] : Bs) + List.length p1 ≤ strMax) then bif decide (List.length (([45, 45] : Bs) ++ p1) + List.length ([45, 45] : Bs) ≤ strMax) then bif x1 == ((([45, 45] : Bs) ++ p1) ++ ([45, 45] : Bs)) then some (2 : Int) else some (0 : Int) else none else none else none
/- posthouse/parts.contained (a round) -/
abbrev R_parts_contained_r0 : Type := (Bs × Bs × Int × (List Bs) × (List Bs)) ⊕ (Bs × Bs × Int × (List Bs))
def F_parts_contained_r0 (fu : Nat) (p0 : Int) (p1 : Bs) (p2 : Bs) (p3 : Bs) (p4 : Int) (p5 : List Bs) (p6 : List Bs) : Option R_parts_contained_r0 := (F_parts_kind fu p1 p3).bind fun x1 => bif x1 == (0 : Int) then some (.inl (p2, (p3, (p4, (p5, p6))))) else bif decide ((0 : Int) ≤ p4) then bif decide (0 ≤ p4 ∧ p4 ≤ (if w64 (p0 - (2 : Int)) > p4 then w64 (p0 - (2 : Int)) else p4) ∧ (if w64 (p0 - (2 : Int)) > p4 then w64 (p0 - (2 : Int)) else p4) ≤ (List.length p2 : Int)) then bif decide (List.length (p6 ++ ([List.take ((if w64 (p0 - (2 : Int)) > p4 then w64 (p0 - (2 : Int)) else p4).toNat - p4.toNat) (List.drop p4.toNat p2)] : List Bs)) ≤ rowMax) then bif x1 == (2 : Int) then some (.inr (p2, (p3, (p4, p6 ++ ([List.take ((if w64 (p0 - (2 : Int)) > p4 then w64 (p0 - (2 : Int)) else p4).toNat - p4.toNat) (List.drop p4.toNat p2)] : List Bs))))) else some (.inl (p2, (p3, (if (List.length p2 : Int) < w64 ((w64 (p0 + (List.length p1 : Int))) + (2 : Int)) then (List.length p2 : Int) else w64 ((w64 (p0 + (List.length p1 : Int))) + (2 : Int)), (p5, p6 ++ ([List.take ((if w64 (p0 - (2 : Int)) > p4 then w64 (p0 - (2 : Int)) else p4).toNat - p4.toNat) (List.drop p4.toNat p2)] : List Bs)))))) else none else none else bif x1 == (2 : Int) then some (.inr (p2, (p3, (p4, p6)))) else some (.inl (p2, (p3, (if (List.length p2 : Int) < w64 ((w64 (p0 + (List.length p1 : Int))) + (2 : Int)) then (List.length p2 : Int) else w64 ((w64 (p0 + (List.length p1 : Int))) + (2 : Int)), (p5, p6)))))
/- posthouse/parts.lines$1 -/
abbrev R_parts_lines_1 : Type := (Bs × Bs × Bs × Int × (List Bs)) ⊕ (Bs × Bs × Bs × Int × (List Bs) × (List Bs))
abbrev x83t0 : Type := Int → Bs → Bs → Bs → Int → (List Bs) → (List Bs) → Option R_parts_lines_1
def F_parts_lines_1_b0 (fu : Nat) (r0 : x83t0) : x83t0 := fun s3 m1 m2 m3 m6 m32 m33 => bif decide (s3 < (List.length m1 : Int)) then bif decide (0 ≤ s3 ∧ s3 ≤ (List.length m1 : Int)) then bif decide (0 < List.length ([(13 : UInt8), (10 : UInt8)] : Bs)) then (F_bytes_Index (List.drop s3.toNat m1) ([(13 : UInt8), (10 : UInt8)] : Bs)).bind fun x1 => bif decide ((0 : Int) ≤ x1) then bif decide (0 ≤ s3 ∧ s3 ≤ w64 (s3 + x1) ∧ w64 (s3 + x1) ≤ (List.length m1 : Int)) then (F_parts_contained_r0 fu s3 (List.take ((w64 (s3 + x1)).toNat - s3.toNat) (List.drop s3.toNat m1)) m2 m3 m6 m32 m33).bind fun x2 => sumK x2 (fun a3 => r0 (w64 ((w64 (s3 + x1)) + (2 : Int))) m1 a3.1 a3.2.1 a3.2.2.1 a3.2.2.2.1 a3.2.2.2.2) (fun b4 => some (.inl (m1, b4))) else none else bif decide (0 ≤ s3 ∧ s3 ≤ (List.length m1 : Int) ∧ (List.length m1 : Int) ≤ (List.length m1 : Int)) then (F_parts_contained_r0 fu s3 (List.take ((List.length m1 : Int).toNat - s3.toNat) (List.drop s3.toNat m1)) m2 m3 m6 m32 m33).bind fun x5 => sumK x5 (fun a6 => r0 (List.length m1 : Int) m1 a6.1 a6.2.1 a6.2.2.1 a6.2.2.2.1 a6.2.2.2.2) (fun b7 => some (.inl (m1, b7))) else none else none else none else some (.inr (m1, (m2, (m3, (m6, (m32, m33))))))
def F_parts_lines_1_p0 (fu : Nat) : Nat → x83t0 | 0 => fun _ _ _ _ _ _ _ => none | n + 1 => F_parts_lines_1_b0 fu (F_parts_lines_1_p0 fu n)
def F_parts_lines_1 (fu : Nat) (p0 : Bs) (p1 : Bs) (p2 : Bs) (p3 : Int) (p4 : List Bs) (p5 : List Bs) : Option R_parts_lines_1 := F_parts_lines_1_p0 fu fu (0 : Int) p0 p1 p2 p3 p4 p5
/- posthouse/parts.contained -/
def F_parts_contained (fu : Nat) (p0 : Bs) (p1 : Bs) : Option ((List Bs)) := (F_parts_lines p0).bind fun x1 => (F_parts_lines_1 fu x1 p0 p1 (-1 : Int) [] []).bind fun x2 => sumK x2 (fun a3 => some a3.2.2.2.2) (fun b4 => bif decide ((0 : Int) ≤ b4.2.2.2.1) then bif decide (0 ≤ b4.2.2.2.1 ∧ b4.2.2.2.1 ≤ (List.length b4.2.1 : Int)) then bif decide (List.length (b4.2.2.2.2.2 ++ ([List.drop b4.2.2.2.1.toNat b4.2.1] : List Bs)) ≤ rowMax) then some (b4.2.2.2.2.2 ++ ([List.drop b4.2.2.2.1.toNat b4.2.1] : List Bs)) else none else none else some b4.2.2.2.2.2)
/- posthouse/parts.inner -/
def F_parts_inner (fu : Nat) (p0 : List (Bs × Bs)) (p1 : Bs) (p2 : Int) : Option ((List Bs)) := (F_parts_boundary fu p0).bind fun x1 => bif !x1.2 then some [] else bif decide ((8 : Int) ≤ p2) then some [] else (F_parts_contained fu p1 x1.1).bind fun x2 => some x2
/- posthouse/parts.check -/
def F_parts_check (fu : Nat) (p0 : (Tree ((List (Bs × Bs)) × Bs)) × Int) : Option Int := (F_header_Validate fu p0.1.val.1).bind fun x1 => (F_basic_Failed x1).bind fun x2 => bif x2 then some x1.1 else bif decide ((0 : Int) < (List.length p0.1.kids : Int)) then (F_parts_whole fu (Tree.node p0.1.val p0.1.kids)).bind fun x3 => some x3 else bif decide ((12000 : Int) < (List.length p0.1.val.2 : Int)) then some (1 : Int) else (F_basic_Body fu p0.1.val.2).bind fun x4 => bif x4 != (0 : Int) then some x4 else (F_parts_inner fu p0.1.val.1 p0.1.val.2 p0.2).bind fun x5 => bif decide ((0 : Int) < (List.length x5 : Int)) then some (5 : Int) else some (0 : Int)
/- posthouse/parts.Validate (a round) -/
def F_parts_Validate_r1 (fu : Nat) (p0 : Int) (p1 : List (Bs × Bs)) (p2 : Bs) (p3 : List (Tree ((List (Bs × Bs)) × Bs))) (p4 : Int) (p5 : Int × Int) : Option (((Int × Int)) ⊕ ((Int × Int))) := (F_parts_check fu ((Tree.node (p1, p2) p3), p4)).bind fun x1 => bif x1 != (0 : Int) then (F_basic_Fault x1 p0).bind fun x2 => some (.inl x2) else some (.inr p5)
/- posthouse/parts.each$1$1 -/
abbrev R_parts_each_1_1_v1 : Type := (Int × (Int × Int)) ⊕ (Int × (Int × Int))
abbrev x88T : Type := (Tree ((List (Bs × Bs)) × Bs)) → Int → Int → (Int × Int) → Option R_parts_each_1_1_v1
abbrev x88t0 : Type := Int → (List (Tree ((List (Bs × Bs)) × Bs))) → Int → Int → Int → (Int × Int) → Option R_parts_each_1_1_v1
def F_parts_each_1_1_v1_b0 (rs11 : x88T) (fu : Nat) (r0 : x88t0) : x88t0 := fun s1 s20 s21 s22 m1 m4 => bif decide (s22 < s21) then (idx s20 s22).bind fun y1 => (rs11 (Tree.node y1.val y1.kids) (w64 (s1 + (1 : Int))) m1 m4).bind fun x2 => sumK x2 (fun a3 => some (.inl a3)) (fun b4 => r0 s1 s20 s21 (w64 (s22 + (1 : Int))) b4.1 b4.2) else some (.inr (m1, m4))
def F_parts_each_1_1_v1_p0 (rs11 : x88T) (fu : Nat) : Nat → x88t0 | 0 => fun _ _ _ _ _ _ => none | n + 1 => F_parts_each_1_1_v1_b0 rs11 fu (F_parts_each_1_1_v1_p0 rs11 fu n)
def F_parts_each_1_1_v1_b (rs11 : x88T) (fu : Nat) (p0 : Tree ((List (Bs × Bs)) × Bs)) (p1 : Int) (p2 : Int) (p3 : Int × Int) : Option R_parts_each_1_1_v1 := (F_parts_Validate_r1 fu p2 p0.val.1 p0.val.2 p0.kids p1 p3).bind fun x1 => sumK x1 (fun a2 => some (.inl (p2, a2))) (fun b3 => F_parts_each_1_1_v1_p0 rs11 fu fu p1 p0.kids (List.length p0.kids : Int) (0 : Int) (w64 (p2 + (1 : Int))) b3)
def F_parts_each_1_1_v1_n (fu : Nat) : Nat → x88T | 0 => fun _ _ _ _ => none | n + 1 => F_parts_each_1_1_v1_b (F_parts_each_1_1_v1_n fu n) fu
def F_parts_each_1_1_v1 (fu : Nat) (p0 : Tree ((List (Bs × Bs)) × Bs)) (p1 : Int) (p2 : Int) (p3 : Int × Int) : Option R_parts_each_1_1_v1 := F_parts_each_1_1_v1_n fu fu p0 p1 p2 p3
/- posthouse/parts.each$1 -/
abbrev R_parts_each_1_v1 : Type := ((Tree ((List (Bs × Bs)) × Bs)) × (Int × Int)) ⊕ ((Tree ((List (Bs × Bs)) × Bs)) × (Int × Int))
def F_parts_each_1_v1 (fu : Nat) (p0 : Tree ((List (Bs × Bs)) × Bs)) (p1 : Int × Int) : Option R_parts_each_1_v1 := (F_parts_each_1_1_v1 fu (Tree.node p0.val p0.kids) (0 : Int) (0 : Int) p1).bind fun x1 => sumK x1 (fun a2 => some (.inl ((Tree.node p0.val p0.kids), a2.2))) (fun b3 => some (.inr ((Tree.node p0.val p0.kids), b3.2)))
/- posthouse/parts.Validate -/
def F_parts_Validate (fu : Nat) (p0 : Tree ((List (Bs × Bs)) × Bs)) : Option ((Int × Int)) := (F_parts_each (Tree.node p0.val p0.kids)).bind fun x1 => (F_parts_each_1 fu (Tree.node x1.val x1.kids) ((0 : Int), (0 : Int)) false).bind fun x2 => sumK x2 (fun a3 => some a3.2.1) (fun b4 => bif b4.2.2 then (F_basic_Fault (2 : Int) (-2 : Int)).bind fun x5 => some x5 else (F_parts_each (Tree.node p0.val p0.kids)).bind fun x6 => (F_parts_each_1_v1 fu (Tree.node x6.val x6.kids) b4.2.1).bind fun x7 => sumK x7 (fun a8 => some a8.2) (fun b9 => (F_basic_None).bind fun x10 => some x10))
/- posthouse/parts.Each -/
abbrev R_parts_Each : Type := (Tree ((List (Bs × Bs)) × Bs))
def F_parts_Each (p0 : Tree ((List (Bs × Bs)) × Bs)) : Option R_parts_Each := some (Tree.node p0.val p0.kids)
/- posthouse/view.typeOf -/
abbrev R_view_typeOf : Type := (Bs × Bs × (List (Bs × Bs)))
def F_view_typeOf (fu : Nat) (p0 : Tree ((List (Bs × Bs)) × Bs)) : Option R_view_typeOf := (F_parts_Type fu p0.val.1).bind fun x1 => sumK x1 (fun a2 => bif a2.2.2.2 then some (a2.1, (a2.2.1, [])) else some (([116, 101, 120, 116] : Bs), (([112, 108, 97, 105, 110] : Bs), []))) (fun b3 => bif b3.2.2.2.1 then some (b3.1, (b3.2.1, b3.2.2.2.2)) else some (([116, 101, 120, 116] : Bs), (([112, 108, 97, 105, 110] : Bs), [])))
/- posthouse/view.first (a round) -/
abbrev R_view_first_r0 : Type := (Bs × Bs × (Tree ((List (Bs × Bs)) × Bs)) × Bool) ⊕ (Bs × Bs × (Tree ((List (Bs × Bs)) × Bs)) × Bool)
def F_view_first_r0 (fu : Nat) (p0 : Int) (p1 : List (Bs × Bs)) (p2 : Bs) (p3 : List (Tree ((List (Bs × Bs)) × Bs))) (p4 : Bs) (p5 : Bs) (p6 : Tree ((List (Bs × Bs)) × Bs)) (p7 : Bool) : Option R_view_first_r0 := (F_view_typeOf fu (Tree.node (p1, p2) p3)).bind fun x1 => bif (List.length p3 : Int) == (0 : Int) then (F_basic_Same fu x1.1 p4).bind fun x2 => bif x2 then (F_basic_Same fu x1.2.1 p5).bind fun x3 => bif x3 then some (.inl (p4, (p5, ((Tree.node (p1, p2) p3), true)))) else some (.inr (p4, (p5, ((Tree.node p6.val p6.kids), p7)))) else some (.inr (p4, (p5, ((Tree.node p6.val p6.kids), p7)))) else some (.inr (p4, (p5, ((Tree.node p6.val p6.kids), p7))))
/- posthouse/parts.Each$1 (a round) -/
abbrev R_parts_Each_1_r0 : Type := (Bs × Bs × (Tree ((List (Bs × Bs)) × Bs)) × Bool) ⊕ (Bs × Bs × (Tree ((List (Bs × Bs)) × Bs)) × Bool)
def F_parts_Each_1_r0 (fu : Nat) (p0 : Int) (p1 : List (Bs × Bs)) (p2 : Bs) (p3 : List (Tree ((List (Bs × Bs)) × Bs))) (p4 : Int) (p5 : Bs) (p6 : Bs) (p7 : Tree ((List (Bs × Bs)) × Bs)) (p8 : Bool) : Option R_parts_Each_1_r0 := (F_view_first_r0 fu p0 p1 p2 p3 p5 p6 (Tree.node p7.val p7.kids) p8).bind fun x1 => sumK x1 (fun a2 => some (.inl (a2.1, (a2.2.1, ((Tree.node a2.2.2.1.val a2.2.2.1.kids), a2.2.2.2))))) (fun b3 => some (.inr (b3.1, (b3.2.1, ((Tree.node b3.2.2.1.val b3.2.2.1.kids), b3.2.2.2)))))
/- posthouse/parts.each$1$1 -/
abbrev R_parts_each_1_1_v2 : Type := (Int × Bs × Bs × (Tree ((List (Bs × Bs)) × Bs)) × Bool) ⊕ (Int × Bs × Bs × (Tree ((List (Bs × Bs)) × Bs)) × Bool)
abbrev x95T : Type := (Tree ((List (Bs × Bs)) × Bs)) → Int → Int → Bs → Bs → (Tree ((List (Bs × Bs)) × Bs)) → Bool → Option R_parts_each_1_1_v2
abbrev x95t0 : Type := Int → (List (Tree ((List (Bs × Bs)) × Bs))) → Int → Int → Int → Bs → Bs → (Tree ((List (Bs × Bs)) × Bs)) → Bool → Option R_parts_each_1_1_v2
def F_parts_each_1_1_v2_b0 (rs99 : x95T) (fu : Nat) (r0 : x95t0) : x95t0 := fun s1 s20 s21 s22 m1 m7 m8 m9 m10 => bif decide (s22 < s21) then (idx s20 s22).bind fun y1 => (rs99 (Tree.node y1.val y1.kids) (w64 (s1 + (1 : Int))) m1 m7 m8 (Tree.node m9.val m9.kids) m10).bind fun x2 => sumK x2 (fun a3 => some (.inl (a3.1, (a3.2.1, (a3.2.2.1, ((Tree.node a3.2.2.2.1.val a3.2.2.2.1.kids), a3.2.2.2.2)))))) (fun b4 => r0 s1 s20 s21 (w64 (s22 + (1 : Int))) b4.1 b4.2.1 b4.2.2.1 (Tree.node b4.2.2.2.1.val b4.2.2.2.1.kids) b4.2.2.2.2) else some (.inr (m1, (m7, (m8, ((Tree.node m9.val m9.kids), m10)))))
def F_parts_each_1_1_v2_p0 (rs99 : x95T) (fu : Nat) : Nat → x95t0 | 0 => fun _ _ _ _ _ _ _ _ _ => none | n + 1 => F_parts_each_1_1_v2_b0 rs99 fu (F_parts_each_1_1_v2_p0 rs99 fu n)
def F_parts_each_1_1_v2_b (rs99 : x95T) (fu : Nat) (p0 : Tree ((List (Bs × Bs)) × Bs)) (p1 : Int) (p2 : Int) (p3 : Bs) (p4 : Bs) (p5 : Tree ((List (Bs × Bs)) × Bs)) (p6 : Bool) : Option R_parts_each_1_1_v2 := (F_parts_Each_1_r0 fu p2 p0.val.1 p0.val.2 p0.kids p1 p3 p4 (Tree.node p5.val p5.kids) p6).bind fun x1 => sumK x1 (fun a2 => some (.inl (p2, (a2.1, (a2.2.1, ((Tree.node a2.2.2.1.val a2.2.2.1.kids), a2.2.2.2)))))) (fun b3 => F_parts_each_1_1_v2_p0 rs99 fu fu p1 p0.kids (List.length p0.kids : Int) (0 : Int) (w64 (p2 + (1 : Int))) b3.1 b3.2.1 (Tree.node b3.2.2.1.val b3.2.2.1.kids) b3.2.2.2)
def F_parts_each_1_1_v2_n (fu : Nat) : Nat → x95T | 0 => fun _ _ _ _ _ _ _ => none | n + 1 => F_parts_each_1_1_v2_b (F_parts_each_1_1_v2_n fu n) fu
def F_parts_each_1_1_v2 (fu : Nat) (p0 : Tree ((List (Bs × Bs)) × Bs)) (p1 : Int) (p2 : Int) (p3 : Bs) (p4 : Bs) (p5 : Tree ((List (Bs × Bs)) × Bs)) (p6 : Bool) : Option R_parts_each_1_1_v2 := F_parts_each_1_1_v2_n fu fu p0 p1 p2 p3 p4 p5 p6
/- posthouse/parts.each$1 -/
abbrev R_parts_each_1_v2 : Type := ((Tree ((List (Bs × Bs)) × Bs)) × Bs × Bs × (Tree ((List (Bs × Bs)) × Bs)) × Bool) ⊕ ((Tree ((List (Bs × Bs)) × Bs)) × Bs × Bs × (Tree ((List (Bs × Bs)) × Bs)) × Bool)
def F_parts_each_1_v2 (fu : Nat) (p0 : Tree ((List (Bs × Bs)) × Bs)) (p1 : Bs) (p2 : Bs) (p3 : Tree ((List (Bs × Bs)) × Bs)) (p4 : Bool) : Option R_parts_each_1_v2 := (F_parts_each_1_1_v2 fu (Tree.node p0.val p0.kids) (0 : Int) (0 : Int) p1 p2 (Tree.node p3.val p3.kids) p4).bind fun x1 => sumK x1 (fun a2 => some (.inl ((Tree.node p0.val p0.kids), (a2.2.1, (a2.2.2.1, ((Tree.node a2.2.2.2.1.val a2.2.2.2.1.kids), a2.2.2.2.2)))))) (fun b3 => some (.inr ((Tree.node p0.val p0.kids), (b3.2.1, (b3.2.2.1, ((Tree.node b3.2.2.2.1.val b3.2.2.2.1.kids), b3.2.2.2.2))))))
/- posthouse/parts.Each$1 -/
abbrev R_parts_Each_1 : Type := ((Tree ((List (Bs × Bs)) × Bs)) × Bs × Bs × (Tree ((List (Bs × Bs)) × Bs)) × Bool) ⊕ ((Tree ((List (Bs × Bs)) × Bs)) × Bs × Bs × (Tree ((List (Bs × Bs)) × Bs)) × Bool)
def F_parts_Each_1 (fu : Nat) (p0 : Tree ((List (Bs × Bs)) × Bs)) (p1 : Bs) (p2 : Bs) (p3 : Tree ((List (Bs × Bs)) × Bs)) (p4 : Bool) : Option R_parts_Each_1 := (F_parts_each (Tree.node p0.val p0.kids)).bind fun x1 => (F_parts_each_1_v2 fu (Tree.node x1.val x1.kids) p1 p2 (Tree.node p3.val p3.kids) p4).bind fun x2 => sumK x2 (fun a3 => some (.inl ((Tree.node p0.val p0.kids), (a3.2.1, (a3.2.2.1, ((Tree.node a3.2.2.2.1.val a3.2.2.2.1.kids), a3.2.2.2.2)))))) (fun b4 => some (.inr ((Tree.node p0.val p0.kids), (b4.2.1, (b4.2.2.1, ((Tree.node b4.2.2.2.1.val b4.2.2.2.1.kids), b4.2.2.2.2))))))
/- posthouse/view.first -/
abbrev R_view_first : Type := (Tree ((List (Bs × Bs)) × Bs)) × Bool
def F_view_first (fu : Nat) (p0 : Tree ((List (Bs × Bs)) × Bs)) (p1 : Bs) (p2 : Bs) : Option R_view_first := (F_parts_Each (Tree.node p0.val p0.kids)).bind fun x1 => (F_parts_Each_1 fu (Tree.node x1.val x1.kids) p1 p2 (Tree.node ([], []) []) false).bind fun x2 => sumK x2 (fun a3 => some ((Tree.node a3.2.2.2.1.val a3.2.2.2.1.kids), a3.2.2.2.2)) (fun b4 => some ((Tree.node ([], []) []), false))
/- posthouse/transfer.plain -/
def F_transfer_plain (p0 : Bs) (p1 : UInt8) : Option (Bs × UInt8) := some (p0, p1)
/- posthouse/transfer.find -/
abbrev R_transfer_find : Type := (Bs × Bool × UInt8) ⊕ ((Bs × Bool) ⊕ ((Bs × Bool) ⊕ (Bs × Bool)))
def F_transfer_find (fu : Nat) (p0 : Bs) : Option R_transfer_find := (F_transfer_plain ([55, 98, 105, 116] : Bs) (127 : UInt8)).bind fun x1 => (F_transfer_plain ([56, 98, 105, 116] : Bs) (255 : UInt8)).bind fun x2 => (F_basic_Same fu x1.1 p0).bind fun x3 => bif x3 then some (.inl (x1.1, (true, x1.2))) else (F_basic_Same fu x2.1 p0).bind fun x4 => bif x4 then some (.inl (x2.1, (true, x2.2))) else (F_basic_Same fu ([98, 97, 115, 101, 54, 52] : Bs) p0).bind fun x5 => bif x5 then some (.inr (.inl (([98, 97, 115, 101, 54, 52] : Bs), true))) else (F_basic_Same fu ([113, 117, 111, 116, 101, 100, 45, 112, 114, 105, 110, 116, 97, 98, 108, 101] : Bs) p0).bind fun x6 => bif x6 then some (.inr (.inr (.inl (([113, 117, 111, 116, 101, 100, 45, 112, 114, 105, 110, 116, 97, 98, 108, 101] : Bs), true)))) else some (.inr (.inr (.inr (([] : Bs), false))))
/- posthouse/transfer.valid -/
abbrev R_transfer_valid : Type := (Bs × (Int × Int) × UInt8) ⊕ ((Bs × (Int × Int)) ⊕ ((Bs × (Int × Int)) ⊕ (Bs × (Int × Int))))
def F_transfer_valid (fu : Nat) (p0 : Bs) (p1 : Bs) : Option R_transfer_valid := (F_transfer_find fu p1).bind fun x1 => sumK x1 (fun a2 => bif !a2.2.1 then (F_basic_Fault (18 : Int) (-3 : Int)).bind fun x8 => some (.inl (a2.1, (x8, a2.2.2))) else bif decide ((12000 : Int) < (List.length p0 : Int)) then (F_basic_Fault (1 : Int) (-1 : Int)).bind fun x9 => some (.inl (a2.1, (x9, a2.2.2))) else (F_basic_None).bind fun x10 => some (.inl (a2.1, (x10, a2.2.2)))) (fun b3 => sumK b3 (fun a4 => bif !a4.2 then (F_basic_Fault (18 : Int) (-3 : Int)).bind fun x11 => some (.inr (.inl (a4.1, x11))) else bif decide ((12000 : Int) < (List.length p0 : Int)) then (F_basic_Fault (1 : Int) (-1 : Int)).bind fun x12 => some (.inr (.inl (a4.1, x12))) else (F_basic_None).bind fun x13 => some (.inr (.inl (a4.1, x13)))) (fun b5 => sumK b5 (fun a6 => bif !a6.2 then (F_basic_Fault (18 : Int) (-3 : Int)).bind fun x14 => some (.inr (.inr (.inl (a6.1, x14)))) else bif decide ((12000 : Int) < (List.length p0 : Int)) then (F_basic_Fault (1 : Int) (-1 : Int)).bind fun x15 => some (.inr (.inr (.inl (a6.1, x15)))) else (F_basic_None).bind fun x16 => some (.inr (.inr (.inl (a6.1, x16))))) (fun b7 => bif !b7.2 then (F_basic_Fault (18 : Int) (-3 : Int)).bind fun x17 => some (.inr (.inr (.inr (b7.1, x17)))) else bif decide ((12000 : Int) < (List.length p0 : Int)) then (F_basic_Fault (1 : Int) (-1 : Int)).bind fun x18 => some (.inr (.inr (.inr (b7.1, x18)))) else (F_basic_None).bind fun x19 => some (.inr (.inr (.inr (b7.1, x19)))))))
/- posthouse/transfer.copied -/
def F_transfer_copied (p0 : Bs) : Option ((Int × Int) × Bs) := bif decide (List.length p0 ≤ rowMax) then (F_basic_None).bind fun x1 => some (x1, p0) else none
/- bytes.IndexByte -/
def F_bytes_IndexByte (p0 : Bs) (p1 : UInt8) : Option Int := (F_bytealg_IndexByte p0 p1).bind fun x1 => some x1
/- posthouse/base64.Lenient -/
abbrev x104t0 : Type := Int → Int → Bs → Int → Int → (Int × Int) → Bs → Option ((Int × Int) × Bs)
def F_base64_Lenient_b0 (fu : Nat) (r0 : x104t0) : x104t0 := fun s5 s6 s14 s15 s16 m32 m33 => bif decide (s16 < s15) then (idx s14 s16).bind fun y1 => bif y1 == (61 : UInt8) then (F_basic_None).bind fun x2 => some (x2, m33) else bif decide (0 < List.length ([(65 : UInt8), (66 : UInt8), (67 : UInt8), (68 : UInt8), (69 : UInt8), (70 : UInt8), (71 : UInt8), (72 : UInt8), (73 : UInt8), (74 : UInt8), (75 : UInt8), (76 : UInt8), (77 : UInt8), (78 : UInt8), (79 : UInt8), (80 : UInt8), (81 : UInt8), (82 : UInt8), (83 : UInt8), (84 : UInt8), (85 : UInt8), (86 : UInt8), (87 : UInt8), (88 : UInt8), (89 : UInt8), (90 : UInt8), (97 : UInt8), (98 : UInt8), (99 : UInt8), (100 : UInt8), (101 : UInt8), (102 : UInt8), (103 : UInt8), (104 : UInt8), (105 : UInt8), (106 : UInt8), (107 : UInt8), (108 : UInt8), (109 : UInt8), (110 : UInt8), (111 : UInt8), (112 : UInt8), (113 : UInt8), (114 : UInt8), (115 : UInt8), (116 : UInt8), (117 : UInt8), (118 : UInt8), (119 : UInt8), (120 : UInt8), (121 : UInt8), (122 : UInt8), (48 : UInt8), (49 : UInt8), (50 : UInt8), (51 : UInt8), (52 : UInt8), (53 : UInt8), (54 : UInt8), (55 : UInt8), (56 : UInt8), (57 : UInt8), (43 : UInt8), (47 : UInt8)] : Bs)) then (F_bytes_IndexByte ([(65 : UInt8), (66 : UInt8), (67 : UInt8), (68 : UInt8), (69 : UInt8), (70 : UInt8), (71 : UInt8), (72 : UInt8), (73 : UInt8), (74 : UInt8), (75 : UInt8), (76 : UInt8), (77 : UInt8), (78 : UInt8), (79 : UInt8), (80 : UInt8), (81 : UInt8), (82 : UInt8), (83 : UInt8), (84 : UInt8), (85 : UInt8), (86 : UInt8), (87 : UInt8), (88 : UInt8), (89 : UInt8), (90 : UInt8), (97 : UInt8), (98 : UInt8), (99 : UInt8), (100 : UInt8), (101 : UInt8), (102 : UInt8), (103 : UInt8), (104 : UInt8), (105 : UInt8), (106 : UInt8), (107 : UInt8), (108 : UInt8), (109 : UInt8), (110 : UInt8), (111 : UInt8), (112 : UInt8), (113 : UInt8), (114 : UInt8), (115 : UInt8), (116 : UInt8), (117 : UInt8), (118 : UInt8), (119 : UInt8), (120 : UInt8), (121 : UInt8), (122 : UInt8), (48 : UInt8), (49 : UInt8), (50 : UInt8), (51 : UInt8), (52 : UInt8), (53 : UInt8), (54 : UInt8), (55 : UInt8), (56 : UInt8), (57 : UInt8), (43 : UInt8), (47 : UInt8)] : Bs) y1).bind fun x3 => bif decide (x3 < (0 : Int)) then r0 s5 s6 s14 s15 (w64 (s16 + (1 : Int))) m32 m33 else bif decide ((8 : Int) ≤ (w64 (s6 + (6 : Int)))) then bif decide (0 ≤ w64 ((w64 (s6 + (6 : Int))) - (8 : Int))) then bif decide (List.length (m33 ++ ([toU8 (Int.fdiv (w64 (((BitVec.ofInt 64 (w64 (s5 * 2 ^ min (6 : Int).toNat 64)) ||| BitVec.ofInt 64 x3).toNat : Int))) (2 ^ min (w64 ((w64 (s6 + (6 : Int))) - (8 : Int))).toNat 64))] : Bs)) ≤ rowMax) then bif decide (0 ≤ w64 ((w64 (s6 + (6 : Int))) - (8 : Int))) then r0 (w64 (((BitVec.ofInt 64 (w64 (((BitVec.ofInt 64 (w64 (s5 * 2 ^ min (6 : Int).toNat 64)) ||| BitVec.ofInt 64 x3).toNat : Int))) &&& BitVec.ofInt 64 (w64 ((w64 ((1 : Int) * 2 ^ min (w64 ((w64 (s6 + (6 : Int))) - (8 : Int))).toNat 64)) - (1 : Int)))).toNat : Int))) (w64 ((w64 (s6 + (6 : Int))) - (8 : Int))) s14 s15 (w64 (s16 + (1 : Int))) m32 (m33 ++ ([toU8 (Int.fdiv (w64 (((BitVec.ofInt 64 (w64 (s5 * 2 ^ min (6 : Int).toNat 64)) ||| BitVec.ofInt 64 x3).toNat : Int))) (2 ^ min (w64 ((w64 (s6 + (6 : Int))) - (8 : Int))).toNat 64))] : Bs)) else none else none else none else r0 (w64 (((BitVec.ofInt 64 (w64 (s5 * 2 ^ min (6 : Int).toNat 64)) ||| BitVec.ofInt 64 x3).toNat : Int))) (w64 (s6 + (6 : Int))) s14 s15 (w64 (s16 + (1 : Int))) m32 m33 else none else (F_basic_None).bind fun x4 => some (x4, m33)
def F_base64_Lenient_p0 (fu : Nat) : Nat → x104t0 | 0 => fun _ _ _ _ _ _ _ => none | n + 1 => F_base64_Lenient_b0 fu (F_base64_Lenient_p0 fu n)
def F_base64_Lenient (fu : Nat) (p0 : Bs) : Option ((Int × Int) × Bs) := bif decide ((24000 : Int) < (List.length p0 : Int)) then (F_basic_Fault (1 : Int) (-1 : Int)).bind fun x1 => some (x1, []) else F_base64_Lenient_p0 fu fu (0 : Int) (0 : Int) p0 (List.length p0 : Int) (0 : Int) ((0 : Int), (0 : Int)) []
/- bytes.Equal -/
def F_bytes_Equal (p0 : Bs) (p1 : Bs) : Option Bool := some (p0 == p1)
/- bytes.HasSuffix -/
def F_bytes_HasSuffix (p0 : Bs) (p1 : Bs) : Option Bool := bif decide ((List.length p1 : Int) ≤ (List.length p0 : Int)) then bif decide (0 ≤ w64 ((List.length p0 : Int) - (List.length p1 : Int)) ∧ w64 ((List.length p0 : Int) - (List.length p1 : Int)) ≤ (List.length p0 : Int)) then (F_bytes_Equal (List.drop (w64 ((List.length p0 : Int) - (List.length p1 : Int))).toNat p0) p1).bind fun x1 => some x1 else none else some false
/- bytes.TrimSuffix -/
def F_bytes_TrimSuffix (p0 : Bs) (p1 : Bs) : Option (Bs) := (F_bytes_HasSuffix p0 p1).bind fun x1 => bif x1 then bif decide (0 ≤ w64 ((List.length p0 : Int) - (List.length p1 : Int)) ∧ w64 ((List.length p0 : Int) - (List.length p1 : Int)) ≤ (List.length p0 : Int)) then some (List.take (w64 ((List.length p0 : Int) - (List.length p1 : Int))).toNat p0) else none else some p0
/- bytes.trimRightByte -/
abbrev x108t0 : Type := Bs → UInt8 → Option (Bs)
def F_bytes_trimRightByte_b0 (fu : Nat) (r0 : x108t0) : x108t0 := fun s0 s1 => bif decide ((0 : Int) < (List.length s0 : Int)) then (idx s0 (w64 ((List.length s0 : Int) - (1 : Int)))).bind fun y1 => bif y1 == s1 then bif decide (0 ≤ w64 ((List.length s0 : Int) - (1 : Int)) ∧ w64 ((List.length s0 : Int) - (1 : Int)) ≤ (List.length s0 : Int)) then r0 (List.take (w64 ((List.length s0 : Int) - (1 : Int))).toNat s0) s1 else none else some s0 else some s0
def F_bytes_trimRightByte_p0 (fu : Nat) : Nat → x108t0 | 0 => fun _ _ => none | n + 1 => F_bytes_trimRightByte_b0 fu (F_bytes_trimRightByte_p0 fu n)
def F_bytes_trimRightByte (fu : Nat) (p0 : Bs) (p1 : UInt8) : Option (Bs) := F_bytes_trimRightByte_p0 fu fu p0 p1
/- bytes.makeASCIISet -/
abbrev x109t0 : Type := Bs → Int → (List Bool) → Option ((List Bool) × Bool)
def F_bytes_makeASCIISet_b0 (fu : Nat) (r0 : x109t0) : x109t0 := fun s0 s4 m32 => bif decide (s4 < (List.length s0 : Int)) then (idx s0 s4).bind fun c1 => bif decide ((128 : UInt8) ≤ c1) then bif decide (List.length m32 = 256) then bif decide (List.length m32 = List.length m32) && decide (List.length m32 = 256) then bif decide (List.length m32 = 256) && (true && true) then some (m32, false) else none else none else none else (m32[c1.toNat]?).bind fun y2 => r0 s0 (w64 (s4 + (1 : Int))) (List.set m32 c1.toNat true) else bif decide (List.length m32 = 256) then bif decide (List.length m32 = List.length m32) && decide (List.length m32 = 256) then bif decide (List.length m32 = 256) && (true && true) then some (m32, true) else none else none else none
def F_bytes_makeASCIISet_p0 (fu : Nat) : Nat → x109t0 | 0 => fun _ _ _ => none | n + 1 => F_bytes_makeASCIISet_b0 fu (F_bytes_makeASCIISet_p0 fu n)
def F_bytes_makeASCIISet (fu : Nat) (p0 : Bs) : Option ((List Bool) × Bool) := F_bytes_makeASCIISet_p0 fu fu p0 (0 : Int) (List.replicate 256 false)
/- (*bytes.asciiSet).contains -/
def F_bytes_asciiSet_contains (p0 : UInt8) (p1 : List Bool) : Option (Bool × (List Bool)) := (p1[p0.toNat]?).bind fun y1 => some (y1, p1)
/- bytes.trimRightASCII -/
abbrev x111t0 : Type := Bs → (List Bool) → Option (Bs × (List Bool))
def F_bytes_trimRightASCII_b0 (fu : Nat) (r0 : x111t0) : x111t0 := fun s0 m0 => bif decide ((0 : Int) < (List.length s0 : Int)) then (idx s0 (w64 ((List.length s0 : Int) - (1 : Int)))).bind fun y1 => (F_bytes_asciiSet_contains y1 m0).bind fun x2 => bif !x2.1 then some (s0, x2.2) else bif decide (0 ≤ w64 ((List.length s0 : Int) - (1 : Int)) ∧ w64 ((List.length s0 : Int) - (1 : Int)) ≤ (List.length s0 : Int)) then r0 (List.take (w64 ((List.length s0 : Int) - (1 : Int))).toNat s0) x2.2 else none else some (s0, m0)
def F_bytes_trimRightASCII_p0 (fu : Nat) : Nat → x111t0 | 0 => fun _ _ => none | n + 1 => F_bytes_trimRightASCII_b0 fu (F_bytes_trimRightASCII_p0 fu n)
def F_bytes_trimRightASCII (fu : Nat) (p0 : Bs) (p1 : List Bool) : Option (Bs × (List Bool)) := F_bytes_trimRightASCII_p0 fu fu p0 p1
/- unicode/utf8.decodeRuneSlow -/
abbrev x112t5 : Type := UInt8 → UInt8 → UInt8 → UInt8 → Option (Int × Int)
abbrev x112t4 : Type := UInt8 → UInt8 → UInt8 → UInt8 → Bool → Option (Int × Int)
abbrev x112t3 : Type := Bs → UInt8 → Int → UInt8 → UInt8 → Option (Int × Int)
abbrev x112t2 : Type := Bs → UInt8 → Int → UInt8 → UInt8 → Bool → Option (Int × Int)
abbrev x112t1 : Type := Bs → UInt8 → Int → UInt8 → Option (Int × Int)
abbrev x112t0 : Type := Bs → UInt8 → Int → UInt8 → Bool → Option (Int × Int)
def F_unicode_utf8_decodeRuneSlow_p5 : x112t5 := fun s5 s10 s11 s12 => some (IntKind.i32.wrap (((BitVec.ofInt 32 (IntKind.i32.wrap (((BitVec.ofInt 32 (IntKind.i32.wrap (((BitVec.ofInt 32 (IntKind.i32.wrap (((s5 &&& (7 : UInt8)).toNat : Int) * 2 ^ min (18 : Int).toNat 32)) ||| BitVec.ofInt 32 (IntKind.i32.wrap (((s10 &&& (63 : UInt8)).toNat : Int) * 2 ^ min (12 : Int).toNat 32))).toNat : Int))) ||| BitVec.ofInt 32 (IntKind.i32.wrap (((s11 &&& (63 : UInt8)).toNat : Int) * 2 ^ min (6 : Int).toNat 32))).toNat : Int))) ||| BitVec.ofInt 32 ((s12 &&& (63 : UInt8)).toNat : Int)).toNat : Int)), (4 : Int))
def F_unicode_utf8_decodeRuneSlow_p4 : x112t4 := fun s5 s10 s11 s12 s103 => bif s103 then some ((65533 : Int), (1 : Int)) else F_unicode_utf8_decodeRuneSlow_p5 s5 s10 s11 s12
def F_unicode_utf8_decodeRuneSlow_p3 : x112t3 := fun s0 s5 s8 s10 s11 => bif decide (s8 ≤ (3 : Int)) then some (IntKind.i32.wrap (((BitVec.ofInt 32 (IntKind.i32.wrap (((BitVec.ofInt 32 (IntKind.i32.wrap (((s5 &&& (15 : UInt8)).toNat : Int) * 2 ^ min (12 : Int).toNat 32)) ||| BitVec.ofInt 32 (IntKind.i32.wrap (((s10 &&& (63 : UInt8)).toNat : Int) * 2 ^ min (6 : Int).toNat 32))).toNat : Int))) ||| BitVec.ofInt 32 ((s11 &&& (63 : UInt8)).toNat : Int)).toNat : Int)), (3 : Int)) else (idx s0 (3 : Int)).bind fun y1 => bif decide (y1 < (128 : UInt8)) then F_unicode_utf8_decodeRuneSlow_p4 s5 s10 s11 y1 true else F_unicode_utf8_decodeRuneSlow_p4 s5 s10 s11 y1 (decide ((191 : UInt8) < y1))
def F_unicode_utf8_decodeRuneSlow_p2 : x112t2 := fun s0 s5 s8 s10 s11 s79 => bif s79 then some ((65533 : Int), (1 : Int)) else F_unicode_utf8_decodeRuneSlow_p3 s0 s5 s8 s10 s11
def F_unicode_utf8_decodeRuneSlow_p1 : x112t1 := fun s0 s5 s8 s10 => bif decide (s8 ≤ (2 : Int)) then some (IntKind.i32.wrap (((BitVec.ofInt 32 (IntKind.i32.wrap (((s5 &&& (31 : UInt8)).toNat : Int) * 2 ^ min (6 : Int).toNat 32)) ||| BitVec.ofInt 32 ((s10 &&& (63 : UInt8)).toNat : Int)).toNat : Int)), (2 : Int)) else (idx s0 (2 : Int)).bind fun y1 => bif decide (y1 < (128 : UInt8)) then F_unicode_utf8_decodeRuneSlow_p2 s0 s5 s8 s10 y1 true else F_unicode_utf8_decodeRuneSlow_p2 s0 s5 s8 s10 y1 (decide ((191 : UInt8) < y1))
def F_unicode_utf8_decodeRuneSlow_p0 : x112t0 := fun s0 s5 s8 s10 s60 => bif s60 then some ((65533 : Int), (1 : Int)) else F_unicode_utf8_decodeRuneSlow_p1 s0 s5 s8 s10
def F_unicode_utf8_decodeRuneSlow (p0 : Bs) : Option (Int × Int) := bif decide ((List.length p0 : Int) < (1 : Int)) then some ((65533 : Int), (0 : Int)) else (idx p0 (0 : Int)).bind fun y1 => (tab0[y1.toNat]?).bind fun y2 => bif decide ((240 : UInt8) ≤ y2) then (idx p0 (0 : Int)).bind fun y3 => some (IntKind.i32.wrap (((BitVec.ofInt 32 (IntKind.i32.wrap (((BitVec.ofInt 32 (y3.toNat : Int) &&& ~~~ BitVec.ofInt 32 (Int.fdiv (IntKind.i32.wrap ((y2.toNat : Int) * 2 ^ min (31 : Int).toNat 32)) (2 ^ min (31 : Int).toNat 32))).toNat : Int))) ||| BitVec.ofInt 32 (IntKind.i32.wrap (((BitVec.ofInt 32 (65533 : Int) &&& BitVec.ofInt 32 (Int.fdiv (IntKind.i32.wrap ((y2.toNat : Int) * 2 ^ min (31 : Int).toNat 32)) (2 ^ min (31 : Int).toNat 32))).toNat : Int)))).toNat : Int)), (1 : Int)) else (tab1[(u8shr y2 (min (4 : Int).toNat 8)).toNat]?).bind fun y4 => bif decide ((List.length p0 : Int) < ((y2 &&& (7 : UInt8)).toNat : Int)) then some ((65533 : Int), (1 : Int)) else (idx p0 (1 : Int)).bind fun y5 => bif decide (y5 < y4.1) then F_unicode_utf8_decodeRuneSlow_p0 p0 y1 ((y2 &&& (7 : UInt8)).toNat : Int) y5 true else F_unicode_utf8_decodeRuneSlow_p0 p0 y1 ((y2 &&& (7 : UInt8)).toNat : Int) y5 (decide (y4.2 < y5))
/- unicode/utf8.DecodeRune -/
abbrev x113t0 : Type := Bs → Bs → Int → Option (Int × Int)
def F_unicode_utf8_DecodeRune_b0 (fu : Nat) (r0 : x113t0) : x113t0 := fun s0 s6 s7 => bif decide ((0 : Int) < s7) then (idx s6 (0 : Int)).bind fun y1 => bif decide (y1 < (128 : UInt8)) then some ((y1.toNat : Int), (1 : Int)) else (F_unicode_utf8_decodeRuneSlow s0).bind fun x2 => some x2 else (F_unicode_utf8_decodeRuneSlow s0).bind fun x3 => some x3
def F_unicode_utf8_DecodeRune_p0 (fu : Nat) : Nat → x113t0 | 0 => fun _ _ _ => none | n + 1 => F_unicode_utf8_DecodeRune_b0 fu (F_unicode_utf8_DecodeRune_p0 fu n)
def F_unicode_utf8_DecodeRune (fu : Nat) (p0 : Bs) : Option (Int × Int) := F_unicode_utf8_DecodeRune_p0 fu fu p0 p0 (List.length p0 : Int)
/- unicode/utf8.DecodeLastRune -/
abbrev x114t2 : Type := Bs → Int → Int → Option (Int × Int)
abbrev x114t1 : Type := Bs → Int → Int → Option (Int × Int)
abbrev x114t0 : Type := Bs → Int → Int → Int → Option (Int × Int)
def F_unicode_utf8_DecodeLastRune_p2 (fu : Nat) : x114t2 := fun s0 s4 s5 => bif decide (0 ≤ s5 ∧ s5 ≤ s4 ∧ s4 ≤ (List.length s0 : Int)) then (F_unicode_utf8_DecodeRune fu (List.take (s4.toNat - s5.toNat) (List.drop s5.toNat s0))).bind fun x1 => bif (w64 (s5 + x1.2)) != s4 then some ((65533 : Int), (1 : Int)) else some x1 else none
def F_unicode_utf8_DecodeLastRune_p1 (fu : Nat) : x114t1 := fun s0 s4 s5 => bif decide (s5 < (0 : Int)) then F_unicode_utf8_DecodeLastRune_p2 fu s0 s4 (0 : Int) else F_unicode_utf8_DecodeLastRune_p2 fu s0 s4 s5
def F_unicode_utf8_DecodeLastRune_b0 (fu : Nat) (r0 : x114t0) : x114t0 := fun s0 s4 s5 s6 => bif decide (s6 ≤ s5) then (idx s0 s5).bind fun y1 => (F_unicode_utf8_RuneStart y1).bind fun x2 => bif x2 then F_unicode_utf8_DecodeLastRune_p1 fu s0 s4 s5 else r0 s0 s4 (w64 (s5 - (1 : Int))) s6 else F_unicode_utf8_DecodeLastRune_p1 fu s0 s4 s5
def F_unicode_utf8_DecodeLastRune_p0 (fu : Nat) : Nat → x114t0 | 0 => fun _ _ _ _ => none | n + 1 => F_unicode_utf8_DecodeLastRune_b0 fu (F_unicode_utf8_DecodeLastRune_p0 fu n)
def F_unicode_utf8_DecodeLastRune (fu : Nat) (p0 : Bs) : Option (Int × Int) := bif (List.length p0 : Int) == (0 : Int) then some ((65533 : Int), (0 : Int)) else (idx p0 (w64 ((List.length p0 : Int) - (1 : Int)))).bind fun y1 => bif decide ((y1.toNat : Int) < (128 : Int)) then some ((y1.toNat : Int), (1 : Int)) else F_unicode_utf8_DecodeLastRune_p0 fu fu p0 (List.length p0 : Int) (w64 ((w64 ((List.length p0 : Int) - (1 : Int))) - (1 : Int))) (if (0 : Int) > w64 ((List.length p0 : Int) - (4 : Int)) then (0 : Int) else w64 ((List.length p0 : Int) - (4 : Int)))
/- bytes.containsRune -/
abbrev x115t0 : Type := Int → Bs → Nat → Option Bool
def F_bytes_containsRune_b0 (fu : Nat) (r0 : x115t0) : x115t0 := fun s1 m32_0 m32_1 => bif Nat.blt m32_1 (List.length m32_0) then bif (((rdec m32_0 m32_1).1 : Nat) : Int) == s1 then some true else r0 s1 m32_0 (m32_1 + (rdec m32_0 m32_1).2) else some false
def F_bytes_containsRune_p0 (fu : Nat) : Nat → x115t0 | 0 => fun _ _ _ => none | n + 1 => F_bytes_containsRune_b0 fu (F_bytes_containsRune_p0 fu n)
def F_bytes_containsRune (fu : Nat) (p0 : Bs) (p1 : Int) : Option Bool := F_bytes_containsRune_p0 fu fu p1 p0 0
/- bytes.trimRightUnicode -/
abbrev x116t0 : Type := Bs → Bs → Option (Bs)
def F_bytes_trimRightUnicode_b0 (fu : Nat) (r0 : x116t0) : x116t0 := fun s0 s1 => bif decide ((0 : Int) < (List.length s0 : Int)) then (idx s0 (w64 ((List.length s0 : Int) - (1 : Int)))).bind fun y1 => bif decide ((128 : Int) ≤ (y1.toNat : Int)) then (F_unicode_utf8_DecodeLastRune fu s0).bind fun x2 => (F_bytes_containsRune fu s1 x2.1).bind fun x3 => bif !x3 then some s0 else bif decide (0 ≤ w64 ((List.length s0 : Int) - x2.2) ∧ w64 ((List.length s0 : Int) - x2.2) ≤ (List.length s0 : Int)) then r0 (List.take (w64 ((List.length s0 : Int) - x2.2)).toNat s0) s1 else none else (F_bytes_containsRune fu s1 (y1.toNat : Int)).bind fun x4 => bif !x4 then some s0 else bif decide (0 ≤ w64 ((List.length s0 : Int) - (1 : Int)) ∧ w64 ((List.length s0 : Int) - (1 : Int)) ≤ (List.length s0 : Int)) then r0 (List.take (w64 ((List.length s0 : Int) - (1 : Int))).toNat s0) s1 else none else some s0
def F_bytes_trimRightUnicode_p0 (fu : Nat) : Nat → x116t0 | 0 => fun _ _ => none | n + 1 => F_bytes_trimRightUnicode_b0 fu (F_bytes_trimRightUnicode_p0 fu n)
def F_bytes_trimRightUnicode (fu : Nat) (p0 : Bs) (p1 : Bs) : Option (Bs) := F_bytes_trimRightUnicode_p0 fu fu p0 p1
/- bytes.TrimRight -/
abbrev x117t3 : Type := Bs → Bs → Option (Bs)
abbrev x117t2 : Type := Bs → Bs → Bool → Option (Bs)
abbrev x117t1 : Type := Bs → Bs → Option (Bs)
abbrev x117t0 : Type := Bs → Bs → Bool → Option (Bs)
def F_bytes_TrimRight_p3 (fu : Nat) : x117t3 := fun s0 s1 => (F_bytes_makeASCIISet fu s1).bind fun x1 => bif decide (List.length x1.1 = List.length (List.replicate 256 false)) && decide (List.length x1.1 = 256) then bif x1.2 then (F_bytes_trimRightASCII fu s0 x1.1).bind fun x2 => some x2.1 else (F_bytes_trimRightUnicode fu s0 s1).bind fun x3 => some x3 else none
def F_bytes_TrimRight_p2 (fu : Nat) : x117t2 := fun s0 s1 s22 => bif s22 then (idx s1 (0 : Int)).bind fun c1 => (F_bytes_trimRightByte fu s0 c1).bind fun x2 => some x2 else F_bytes_TrimRight_p3 fu s0 s1
def F_bytes_TrimRight_p1 (fu : Nat) : x117t1 := fun s0 s1 => bif (List.length s1 : Int) == (1 : Int) then (idx s1 (0 : Int)).bind fun c1 => F_bytes_TrimRight_p2 fu s0 s1 (decide (c1 < (128 : UInt8))) else F_bytes_TrimRight_p2 fu s0 s1 false
def F_bytes_TrimRight_p0 (fu : Nat) : x117t0 := fun s0 s1 s13 => bif s13 then some s0 else F_bytes_TrimRight_p1 fu s0 s1
def F_bytes_TrimRight (fu : Nat) (p0 : Bs) (p1 : Bs) : Option (Bs) := bif (List.length p0 : Int) == (0 : Int) then F_bytes_TrimRight_p0 fu p0 p1 true else F_bytes_TrimRight_p0 fu p0 p1 (p1 == ([] : Bs))
/- posthouse/basic.Hex -/
abbrev x118t1 : Type := UInt8 → Bool → Option (UInt8 × Bool)
abbrev x118t0 : Type := UInt8 → Bool → Option (UInt8 × Bool)
def F_basic_Hex_p1 : x118t1 := fun s0 s13 => bif s13 then some ((s0 - (65 : UInt8)) + (10 : UInt8), true) else bif decide ((97 : UInt8) ≤ s0) then bif decide (s0 ≤ (102 : UInt8)) then some ((s0 - (97 : UInt8)) + (10 : UInt8), true) else some ((0 : UInt8), false) else some ((0 : UInt8), false)
def F_basic_Hex_p0 : x118t0 := fun s0 s4 => bif s4 then some (s0 - (48 : UInt8), true) else bif decide ((65 : UInt8) ≤ s0) then F_basic_Hex_p1 s0 (decide (s0 ≤ (70 : UInt8))) else F_basic_Hex_p1 s0 false
def F_basic_Hex (p0 : UInt8) : Option (UInt8 × Bool) := bif decide ((48 : UInt8) ≤ p0) then F_basic_Hex_p0 p0 (decide (p0 ≤ (57 : UInt8))) else F_basic_Hex_p0 p0 false
/- posthouse/basic.Pair -/
def F_basic_Pair (p0 : Bs) : Option (UInt8 × Bool) := bif decide ((List.length p0 : Int) < (2 : Int)) then some ((0 : UInt8), false) else (idx p0 (0 : Int)).bind fun c1 => (F_basic_Hex c1).bind fun x2 => (idx p0 (1 : Int)).bind fun c3 => (F_basic_Hex c3).bind fun x4 => bif x2.2 then some ((u8shl x2.1 (min (4 : Int).toNat 8)) ||| x4.1, x4.2) else some ((u8shl x2.1 (min (4 : Int).toNat 8)) ||| x4.1, false)
/- posthouse/quoted.plain -/
abbrev x120t0 : Type := Bs → Int → Bs → Option (Bs)
def F_quoted_plain_b0 (fu : Nat) (r0 : x120t0) : x120t0 := fun s0 s4 m32 => bif decide (s4 < (List.length s0 : Int)) then (idx s0 s4).bind fun y1 => bif y1 == (61 : UInt8) then bif decide (0 ≤ w64 (s4 + (1 : Int)) ∧ w64 (s4 + (1 : Int)) ≤ (if (List.length s0 : Int) < w64 (s4 + (3 : Int)) then (List.length s0 : Int) else w64 (s4 + (3 : Int))) ∧ (if (List.length s0 : Int) < w64 (s4 + (3 : Int)) then (List.length s0 : Int) else w64 (s4 + (3 : Int))) ≤ (List.length s0 : Int)) then (F_basic_Pair (List.take ((if (List.length s0 : Int) < w64 (s4 + (3 : Int)) then (List.length s0 : Int) else w64 (s4 + (3 : Int))).toNat - (w64 (s4 + (1 : Int))).toNat) (List.drop (w64 (s4 + (1 : Int))).toNat s0))).bind fun x2 => bif x2.2 then bif decide (List.length (m32 ++ ([x2.1] : Bs)) ≤ rowMax) then r0 s0 (w64 ((w64 (s4 + (2 : Int))) + (1 : Int))) (m32 ++ ([x2.1] : Bs)) else none else (idx s0 s4).bind fun y3 => bif decide (List.length (m32 ++ ([y3] : Bs)) ≤ rowMax) then r0 s0 (w64 (s4 + (1 : Int))) (m32 ++ ([y3] : Bs)) else none else none else (idx s0 s4).bind fun y4 => bif decide (List.length (m32 ++ ([y4] : Bs)) ≤ rowMax) then r0 s0 (w64 (s4 + (1 : Int))) (m32 ++ ([y4] : Bs)) else none else some m32
def F_quoted_plain_p0 (fu : Nat) : Nat → x120t0 | 0 => fun _ _ _ => none | n + 1 => F_quoted_plain_b0 fu (F_quoted_plain_p0 fu n)
def F_quoted_plain (fu : Nat) (p0 : Bs) : Option (Bs) := F_quoted_plain_p0 fu fu p0 (0 : Int) []
/- posthouse/quoted.Lenient -/
abbrev x121t3 : Type := Bs → Int → Bs → Bs → (Int × Int) → Bs → Option ((Int × Int) × Bs)
abbrev x121t2 : Type := Bs → Int → Bs → (Int × Int) → Bs → Option ((Int × Int) × Bs)
abbrev x121t1 : Type := Bs → Int → (Int × Int) → Bs → Option ((Int × Int) × Bs)
abbrev x121t0 : Type := Bs → (Int × Int) → Bs → Option ((Int × Int) × Bs)
def F_quoted_Lenient_p3 (fu : Nat) (r0 : x121t0) : x121t3 := fun s0 s5 s6 s7 m32 m33 => (F_quoted_plain fu s6).bind fun x1 => bif decide (List.length (m33 ++ x1) ≤ rowMax) then bif decide (List.length ((m33 ++ x1) ++ s7) ≤ rowMax) then bif decide (0 ≤ s5 ∧ s5 ≤ (List.length s0 : Int)) then r0 (List.drop s5.toNat s0) m32 ((m33 ++ x1) ++ s7) else none else none else none
def F_quoted_Lenient_p2 (fu : Nat) (r0 : x121t0) : x121t2 := fun s0 s5 s6 m32 m33 => bif decide (0 ≤ (List.length s6 : Int) ∧ (List.length s6 : Int) ≤ s5 ∧ s5 ≤ (List.length s0 : Int)) then (F_bytes_TrimRight fu s6 ([32, 9] : Bs)).bind fun x1 => bif decide (0 < List.length ([(61 : UInt8)] : Bs)) then (F_bytes_HasSuffix x1 ([(61 : UInt8)] : Bs)).bind fun x2 => bif x2 then bif decide (0 ≤ w64 ((List.length x1 : Int) - (1 : Int)) ∧ w64 ((List.length x1 : Int) - (1 : Int)) ≤ (List.length x1 : Int)) then F_quoted_Lenient_p3 fu r0 s0 s5 (List.take (w64 ((List.length x1 : Int) - (1 : Int))).toNat x1) [] m32 m33 else none else F_quoted_Lenient_p3 fu r0 s0 s5 x1 (List.take (s5.toNat - (List.length s6 : Int).toNat) (List.drop (List.length s6 : Int).toNat s0)) m32 m33 else none else none
def F_quoted_Lenient_p1 (fu : Nat) (r0 : x121t0) : x121t1 := fun s0 s5 m32 m33 => bif decide (0 ≤ s5 ∧ s5 ≤ (List.length s0 : Int)) then bif decide (0 < List.length ([(10 : UInt8)] : Bs)) then (F_bytes_TrimSuffix (List.take s5.toNat s0) ([(10 : UInt8)] : Bs)).bind fun x1 => bif decide ((List.length x1 : Int) < s5) then bif decide (0 < List.length ([(13 : UInt8)] : Bs)) then (F_bytes_TrimSuffix x1 ([(13 : UInt8)] : Bs)).bind fun x2 => F_quoted_Lenient_p2 fu r0 s0 s5 x2 m32 m33 else none else F_quoted_Lenient_p2 fu r0 s0 s5 x1 m32 m33 else none else none
def F_quoted_Lenient_b0 (fu : Nat) (r0 : x121t0) : x121t0 := fun s0 m32 m33 => bif decide ((0 : Int) < (List.length s0 : Int)) then (F_bytes_IndexByte s0 (10 : UInt8)).bind fun x1 => bif (w64 (x1 + (1 : Int))) == (0 : Int) then F_quoted_Lenient_p1 fu r0 s0 (List.length s0 : Int) m32 m33 else F_quoted_Lenient_p1 fu r0 s0 (w64 (x1 + (1 : Int))) m32 m33 else (F_basic_None).bind fun x2 => some (x2, m33)
def F_quoted_Lenient_p0 (fu : Nat) : Nat → x121t0 | 0 => fun _ _ _ => none | n + 1 => F_quoted_Lenient_b0 fu (F_quoted_Lenient_p0 fu n)
def F_quoted_Lenient (fu : Nat) (p0 : Bs) : Option ((Int × Int) × Bs) := bif decide ((48000 : Int) < (List.length p0 : Int)) then (F_basic_Fault (1 : Int) (-1 : Int)).bind fun x1 => some (x1, []) else F_quoted_Lenient_p0 fu fu p0 ((0 : Int), (0 : Int)) []
/- posthouse/transfer.Decode -/
def F_transfer_Decode (fu : Nat) (p0 : Bs) (p1 : Bs) : Option ((Int × Int) × Bs) := (F_transfer_valid fu p0 p1).bind fun x1 => sumK x1 (fun a2 => (F_basic_Failed a2.2.1).bind fun x8 => bif x8 then some (a2.2.1, []) else (F_transfer_copied p0).bind fun x9 => some x9) (fun b3 => sumK b3 (fun a4 => (F_basic_Failed a4.2).bind fun x10 => bif x10 then some (a4.2, []) else (F_base64_Lenient fu p0).bind fun x11 => some x11) (fun b5 => sumK b5 (fun a6 => (F_basic_Failed a6.2).bind fun x12 => bif x12 then some (a6.2, []) else (F_quoted_Lenient fu p0).bind fun x13 => some x13) (fun b7 => (F_basic_Failed b7.2).bind fun x14 => bif x14 then some (b7.2, []) else none)))
/- posthouse/view.Content -/
abbrev x123t0 : Type := (List (Bs × Bs)) → Int → Int → (Tree ((List (Bs × Bs)) × Bs)) → Option (Bs)
def F_view_Content_b0 (fu : Nat) (r0 : x123t0) : x123t0 := fun s10 s11 s12 m32 => bif decide (s12 < s11) then (idx s10 s12).bind fun y1 => (F_basic_Same fu y1.1 ([67, 111, 110, 116, 101, 110, 116, 45, 84, 114, 97, 110, 115, 102, 101, 114, 45, 69, 110, 99, 111, 100, 105, 110, 103] : Bs)).bind fun x2 => bif !x2 then r0 s10 s11 (w64 (s12 + (1 : Int))) (Tree.node m32.val m32.kids) else (F_transfer_Decode fu m32.val.2 y1.2).bind fun x3 => bif x3.1.1 != (18 : Int) then some x3.2 else r0 s10 s11 (w64 (s12 + (1 : Int))) (Tree.node m32.val m32.kids) else (F_transfer_Decode fu m32.val.2 ([55, 98, 105, 116] : Bs)).bind fun x4 => some x4.2
def F_view_Content_p0 (fu : Nat) : Nat → x123t0 | 0 => fun _ _ _ _ => none | n + 1 => F_view_Content_b0 fu (F_view_Content_p0 fu n)
def F_view_Content (fu : Nat) (p0 : Tree ((List (Bs × Bs)) × Bs)) : Option (Bs) := F_view_Content_p0 fu fu p0.val.1 (List.length p0.val.1 : Int) (0 : Int) (Tree.node p0.val p0.kids)
/- posthouse/charset.single -/
def F_charset_single (p0 : Bs) (p1 : Int) : Option (Bs × Int) := some (p0, p1)
/- posthouse/charset.find -/
abbrev R_charset_find : Type := (Bs × Bool × Int) ⊕ ((Bs × Bool) ⊕ ((Bs × Bool) ⊕ (Bs × Bool)))
def F_charset_find (fu : Nat) (p0 : Bs) : Option R_charset_find := (F_charset_single ([97, 115, 99, 105, 105] : Bs) (128 : Int)).bind fun x1 => (F_charset_single ([108, 97, 116, 105, 110, 49] : Bs) (256 : Int)).bind fun x2 => (F_basic_Same fu x1.1 p0).bind fun x3 => bif x3 then some (.inl (x1.1, (true, x1.2))) else (F_basic_Same fu x2.1 p0).bind fun x4 => bif x4 then some (.inl (x2.1, (true, x2.2))) else (F_basic_Same fu ([117, 116, 102, 56] : Bs) p0).bind fun x5 => bif x5 then some (.inr (.inl (([117, 116, 102, 56] : Bs), true))) else (F_basic_Same fu ([117, 116, 102, 49, 54, 98, 101] : Bs) p0).bind fun x6 => bif x6 then some (.inr (.inr (.inl (([117, 116, 102, 49, 54, 98, 101] : Bs), true)))) else some (.inr (.inr (.inr (([] : Bs), false))))
/- posthouse/charset.single$1 -/
abbrev x126t0 : Type := Bs → Int → Int → Int → (List Int) → Option (Int × (List Int))
def F_charset_single_1_b0 (fu : Nat) (r0 : x126t0) : x126t0 := fun s8 s9 s10 m0 m32 => bif decide (s10 < s9) then (idx s8 s10).bind fun y1 => bif decide (m0 ≤ (y1.toNat : Int)) then bif decide (List.length (m32 ++ ([(65533 : Int)] : List Int)) ≤ rowMax) then r0 s8 s9 (w64 (s10 + (1 : Int))) m0 (m32 ++ ([(65533 : Int)] : List Int)) else none else bif decide (List.length (m32 ++ ([(y1.toNat : Int)] : List Int)) ≤ rowMax) then r0 s8 s9 (w64 (s10 + (1 : Int))) m0 (m32 ++ ([(y1.toNat : Int)] : List Int)) else none else some (m0, m32)
def F_charset_single_1_p0 (fu : Nat) : Nat → x126t0 | 0 => fun _ _ _ _ _ => none | n + 1 => F_charset_single_1_b0 fu (F_charset_single_1_p0 fu n)
def F_charset_single_1 (fu : Nat) (p0 : Bs) (p1 : Int) : Option (Int × (List Int)) := F_charset_single_1_p0 fu fu p0 (List.length p0 : Int) (0 : Int) p1 []
/- posthouse/charset.find$1 -/
def F_charset_find_1 (p0 : Bs) : Option ((List Int)) := bif decide (List.length p0 ≤ 4294967296) then some (rvals p0) else none
/- posthouse/charset.units$1 -/
def F_charset_units_1 (p0 : Int) (p1 : Bs) : Option (Int × Bs) := (idx p1 p0).bind fun y1 => (idx p1 (w64 (p0 + (1 : Int)))).bind fun y2 => some (IntKind.i32.wrap (((BitVec.ofInt 32 (IntKind.i32.wrap ((y1.toNat : Int) * 2 ^ min (8 : Int).toNat 32)) ||| BitVec.ofInt 32 (y2.toNat : Int)).toNat : Int)), p1)
/- posthouse/charset.units -/
abbrev x129t3 : Type := Int → Int → Bs → (List Int) → Option ((List Int))
abbrev x129t2 : Type := Int → Int → Int → Bool → Bs → (List Int) → Option ((List Int))
abbrev x129t1 : Type := Int → Int → Bool → Bs → (List Int) → Option ((List Int))
abbrev x129t0 : Type := Int → Bs → (List Int) → Option ((List Int))
def F_charset_units_p3 (fu : Nat) (r0 : x129t0) : x129t3 := fun s5 s6 m32 m33 => bif decide ((55296 : Int) ≤ s6) then bif decide (s6 < (57344 : Int)) then bif decide (List.length (m33 ++ ([(65533 : Int)] : List Int)) ≤ rowMax) then r0 (w64 (s5 + (2 : Int))) m32 (m33 ++ ([(65533 : Int)] : List Int)) else none else bif decide (List.length (m33 ++ ([s6] : List Int)) ≤ rowMax) then r0 (w64 (s5 + (2 : Int))) m32 (m33 ++ ([s6] : List Int)) else none else bif decide (List.length (m33 ++ ([s6] : List Int)) ≤ rowMax) then r0 (w64 (s5 + (2 : Int))) m32 (m33 ++ ([s6] : List Int)) else none
def F_charset_units_p2 (fu : Nat) (r0 : x129t0) : x129t2 := fun s5 s6 s7 s48 m32 m33 => bif s48 then F_charset_units_p3 fu r0 (w64 (s5 + (2 : Int))) (IntKind.i32.wrap ((IntKind.i32.wrap ((IntKind.i32.wrap ((65536 : Int) + (IntKind.i32.wrap ((IntKind.i32.wrap (s6 - (55296 : Int))) * 2 ^ min (10 : Int).toNat 32)))) + s7)) - (56320 : Int))) m32 m33 else F_charset_units_p3 fu r0 s5 s6 m32 m33
def F_charset_units_p1 (fu : Nat) (r0 : x129t0) : x129t1 := fun s5 s6 s38 m32 m33 => bif s38 then (F_charset_units_1 (w64 (s5 + (2 : Int))) m32).bind fun x1 => bif decide ((56320 : Int) ≤ x1.1) then F_charset_units_p2 fu r0 s5 s6 x1.1 (decide (x1.1 < (57344 : Int))) x1.2 m33 else F_charset_units_p2 fu r0 s5 s6 x1.1 false x1.2 m33 else F_charset_units_p3 fu r0 s5 s6 m32 m33
def F_charset_units_b0 (fu : Nat) (r0 : x129t0) : x129t0 := fun s5 m32 m33 => bif decide (s5 < (List.length m32 : Int)) then bif (w64 (s5 + (1 : Int))) == (List.length m32 : Int) then bif decide (List.length (m33 ++ ([(65533 : Int)] : List Int)) ≤ rowMax) then some (m33 ++ ([(65533 : Int)] : List Int)) else none else (F_charset_units_1 s5 m32).bind fun x1 => bif decide ((55296 : Int) ≤ x1.1) then bif decide (x1.1 < (56320 : Int)) then F_charset_units_p1 fu r0 s5 x1.1 (decide ((w64 (s5 + (3 : Int))) < (List.length x1.2 : Int))) x1.2 m33 else F_charset_units_p1 fu r0 s5 x1.1 false x1.2 m33 else F_charset_units_p1 fu r0 s5 x1.1 false x1.2 m33 else some m33
def F_charset_units_p0 (fu : Nat) : Nat → x129t0 | 0 => fun _ _ _ => none | n + 1 => F_charset_units_b0 fu (F_charset_units_p0 fu n)
def F_charset_units (fu : Nat) (p0 : Bs) : Option ((List Int)) := F_charset_units_p0 fu fu (0 : Int) p0 []
/- posthouse/charset.Decode -/
def F_charset_Decode (fu : Nat) (p0 : Bs) (p1 : Bs) : Option (Bs × (Int × Int)) := bif decide ((12000 : Int) < (List.length p1 : Int)) then (F_basic_Fault (1 : Int) (-1 : Int)).bind fun x1 => some (([] : Bs), x1) else (F_charset_find fu p0).bind fun x2 => sumK x2 (fun a3 => bif !a3.2.1 then (F_basic_Fault (18 : Int) (-2 : Int)).bind fun x9 => some (([] : Bs), x9) else (F_charset_single_1 fu p1 a3.2.2).bind fun x10 => none) (fun b4 => sumK b4 (fun a5 => bif !a5.2 then (F_basic_Fault (18 : Int) (-2 : Int)).bind fun x11 => some (([] : Bs), x11) else (F_charset_find_1 p1).bind fun x12 => (F_basic_None).bind fun x13 => some (rtext x12, x13)) (fun b6 => sumK b6 (fun a7 => bif !a7.2 then (F_basic_Fault (18 : Int) (-2 : Int)).bind fun x14 => some (([] : Bs), x14) else (F_charset_units fu p1).bind fun x15 => (F_basic_None).bind fun x16 => some (rtext x15, x16)) (fun b8 => bif !b8.2 then (F_basic_Fault (18 : Int) (-2 : Int)).bind fun x17 => some (([] : Bs), x17) else none)))
/- posthouse/view.text -/
def F_view_text (fu : Nat) (p0 : Tree ((List (Bs × Bs)) × Bs)) : Option (Bs) := (F_view_typeOf fu (Tree.node p0.val p0.kids)).bind fun x1 => (F_media_Param fu x1 ([99, 104, 97, 114, 115, 101, 116] : Bs)).bind fun x2 => (F_view_Content fu (Tree.node p0.val p0.kids)).bind fun x3 => (F_charset_Decode fu x2.1 x3).bind fun x4 => bif x4.2.1 == (18 : Int) then (F_charset_Decode fu ([117, 116, 102, 56] : Bs) x3).bind fun x5 => (F_strings_ReplaceAll x5.1 ([13, 10] : Bs) ([10] : Bs)).bind fun x6 => some x6 else (F_strings_ReplaceAll x4.1 ([13, 10] : Bs) ([10] : Bs)).bind fun x7 => some x7
/- posthouse/view.Text -/
def F_view_Text (fu : Nat) (p0 : Tree ((List (Bs × Bs)) × Bs)) : Option (Bs × (Int × Int)) := (F_parts_Validate fu (Tree.node p0.val p0.kids)).bind fun x1 => (F_basic_Failed x1).bind fun x2 => bif x2 then some (([] : Bs), x1) else (F_view_first fu (Tree.node p0.val p0.kids) ([116, 101, 120, 116] : Bs) ([112, 108, 97, 105, 110] : Bs)).bind fun x3 => bif x3.2 then (F_view_text fu (Tree.node x3.1.val x3.1.kids)).bind fun x4 => (F_basic_None).bind fun x5 => some (x4, x5) else (F_view_first fu (Tree.node p0.val p0.kids) ([116, 101, 120, 116] : Bs) ([104, 116, 109, 108] : Bs)).bind fun x6 => bif x6.2 then (F_view_text fu (Tree.node x6.1.val x6.1.kids)).bind fun x7 => none else (F_basic_None).bind fun x8 => some (([] : Bs), x8)
/- posthouse/view.file -/
abbrev x133t1 : Type := (List (Bs × Bs)) → Int → Int → (Tree ((List (Bs × Bs)) × Bs)) → Option (Bs × Bool)
abbrev x133t0 : Type := (List (Bs × Bs)) → Int → Int → (Tree ((List (Bs × Bs)) × Bs)) → Option (Bs × Bool)
def F_view_file_p1 (fu : Nat) (r0 : x133t0) : x133t1 := fun s15 s16 s17 m32 => r0 s15 s16 (w64 (s17 + (1 : Int))) (Tree.node m32.val m32.kids)
def F_view_file_b0 (fu : Nat) (r0 : x133t0) : x133t0 := fun s15 s16 s17 m32 => bif decide (s17 < s16) then (idx s15 s17).bind fun y1 => (F_basic_Same fu y1.1 ([67, 111, 110, 116, 101, 110, 116, 45, 68, 105, 115, 112, 111, 115, 105, 116, 105, 111, 110] : Bs)).bind fun x2 => bif !x2 then F_view_file_p1 fu r0 s15 s16 s17 (Tree.node m32.val m32.kids) else bif decide (List.length ([120, 47] : Bs) + List.length y1.2 ≤ strMax) then (F_media_Parse fu (([120, 47] : Bs) ++ y1.2)).bind fun x3 => sumK x3 (fun a4 => (F_basic_Failed a4.2.2).bind fun x6 => bif x6 then F_view_file_p1 fu r0 s15 s16 s17 (Tree.node m32.val m32.kids) else (F_media_Param fu (a4.1, (a4.2.1, [])) ([102, 105, 108, 101, 110, 97, 109, 101] : Bs)).bind fun x7 => bif x7.2.1 then some (x7.1, true) else F_view_file_p1 fu r0 s15 s16 s17 (Tree.node m32.val m32.kids)) (fun b5 => (F_basic_Failed (b5.2.2.1, b5.2.2.2.1)).bind fun x8 => bif x8 then F_view_file_p1 fu r0 s15 s16 s17 (Tree.node m32.val m32.kids) else (F_media_Param fu (b5.1, (b5.2.1, b5.2.2.2.2)) ([102, 105, 108, 101, 110, 97, 109, 101] : Bs)).bind fun x9 => bif x9.2.1 then some (x9.1, true) else F_view_file_p1 fu r0 s15 s16 s17 (Tree.node m32.val m32.kids)) else none else (F_view_typeOf fu (Tree.node m32.val m32.kids)).bind fun x10 => (F_media_Param fu x10 ([110, 97, 109, 101] : Bs)).bind fun x11 => some (x11.1, x11.2.1)
def F_view_file_p0 (fu : Nat) : Nat → x133t0 | 0 => fun _ _ _ _ => none | n + 1 => F_view_file_b0 fu (F_view_file_p0 fu n)
def F_view_file (fu : Nat) (p0 : Tree ((List (Bs × Bs)) × Bs)) : Option (Bs × Bool) := F_view_file_p0 fu fu p0.val.1 (List.length p0.val.1 : Int) (0 : Int) (Tree.node p0.val p0.kids)
/- posthouse/view.Files (a round) -/
def F_view_Files_r0 (fu : Nat) (p0 : Int) (p1 : List (Bs × Bs)) (p2 : Bs) (p3 : List (Tree ((List (Bs × Bs)) × Bs))) (p4 : List Bs) : Option ((List Bs)) := (F_view_file fu (Tree.node (p1, p2) p3)).bind fun x1 => bif x1.2 then bif (List.length p3 : Int) == (0 : Int) then bif decide (List.length (p4 ++ ([x1.1] : List Bs)) ≤ rowMax) then some (p4 ++ ([x1.1] : List Bs)) else none else some p4 else some p4
/- posthouse/parts.Each$1 (a round) -/
def F_parts_Each_1_r0_v1 (fu : Nat) (p0 : Int) (p1 : List (Bs × Bs)) (p2 : Bs) (p3 : List (Tree ((List (Bs × Bs)) × Bs))) (p4 : Int) (p5 : List Bs) : Option ((List Bs)) := (F_view_Files_r0 fu p0 p1 p2 p3 p5).bind fun x1 => some x1
/- posthouse/parts.each$1$1 -/
abbrev x136T : Type := (Tree ((List (Bs × Bs)) × Bs)) → Int → Int → (List Bs) → Option (Int × (List Bs))
abbrev x136t0 : Type := Int → (List (Tree ((List (Bs × Bs)) × Bs))) → Int → Int → Int → (List Bs) → Option (Int × (List Bs))
def F_parts_each_1_1_v3_b0 (rs139 : x136T) (fu : Nat) (r0 : x136t0) : x136t0 := fun s1 s20 s21 s22 m1 m32 => bif decide (s22 < s21) then (idx s20 s22).bind fun y1 => (rs139 (Tree.node y1.val y1.kids) (w64 (s1 + (1 : Int))) m1 m32).bind fun x2 => r0 s1 s20 s21 (w64 (s22 + (1 : Int))) x2.1 x2.2 else some (m1, m32)
def F_parts_each_1_1_v3_p0 (rs139 : x136T) (fu : Nat) : Nat → x136t0 | 0 => fun _ _ _ _ _ _ => none | n + 1 => F_parts_each_1_1_v3_b0 rs139 fu (F_parts_each_1_1_v3_p0 rs139 fu n)
def F_parts_each_1_1_v3_b (rs139 : x136T) (fu : Nat) (p0 : Tree ((List (Bs × Bs)) × Bs)) (p1 : Int) (p2 : Int) (p3 : List Bs) : Option (Int × (List Bs)) := (F_parts_Each_1_r0_v1 fu p2 p0.val.1 p0.val.2 p0.kids p1 p3).bind fun x1 => F_parts_each_1_1_v3_p0 rs139 fu fu p1 p0.kids (List.length p0.kids : Int) (0 : Int) (w64 (p2 + (1 : Int))) x1
def F_parts_each_1_1_v3_n (fu : Nat) : Nat → x136T | 0 => fun _ _ _ _ => none | n + 1 => F_parts_each_1_1_v3_b (F_parts_each_1_1_v3_n fu n) fu
def F_parts_each_1_1_v3 (fu : Nat) (p0 : Tree ((List (Bs × Bs)) × Bs)) (p1 : Int) (p2 : Int) (p3 : List Bs) : Option (Int × (List Bs)) := F_parts_each_1_1_v3_n fu fu p0 p1 p2 p3
/- posthouse/parts.each$1 -/
abbrev R_parts_each_1_v3 : Type := (Tree ((List (Bs × Bs)) × Bs)) × (List Bs)
def F_parts_each_1_v3 (fu : Nat) (p0 : Tree ((List (Bs × Bs)) × Bs)) (p1 : List Bs) : Option R_parts_each_1_v3 := (F_parts_each_1_1_v3 fu (Tree.node p0.val p0.kids) (0 : Int) (0 : Int) p1).bind fun x1 => some ((Tree.node p0.val p0.kids), x1.2)
/- posthouse/parts.Each$1 -/
abbrev R_parts_Each_1_v1 : Type := (Tree ((List (Bs × Bs)) × Bs)) × (List Bs)
def F_parts_Each_1_v1 (fu : Nat) (p0 : Tree ((List (Bs × Bs)) × Bs)) (p1 : List Bs) : Option R_parts_Each_1_v1 := (F_parts_each (Tree.node p0.val p0.kids)).bind fun x1 => (F_parts_each_1_v3 fu (Tree.node x1.val x1.kids) p1).bind fun x2 => some ((Tree.node p0.val p0.kids), x2.2)
/- posthouse/view.Files -/
def F_view_Files (fu : Nat) (p0 : Tree ((List (Bs × Bs)) × Bs)) : Option ((Int × Int) × (List Bs)) := (F_parts_Validate fu (Tree.node p0.val p0.kids)).bind fun x1 => (F_basic_Failed x1).bind fun x2 => bif x2 then some (x1, []) else (F_parts_Each (Tree.node p0.val p0.kids)).bind fun x3 => (F_parts_Each_1_v1 fu (Tree.node x3.val x3.kids) []).bind fun x4 => (F_basic_None).bind fun x5 => some (x5, x4.2)
/- posthouse/posthouseref1.Strings -/
abbrev x140t0 : Type := (List Bs) → (List Bs) → Int → Option Bool
def F_R1_Strings_b0 (fu : Nat) (r0 : x140t0) : x140t0 := fun s0 s1 s5 => bif decide (s5 < (List.length s0 : Int)) then (idx s0 s5).bind fun y1 => (idx s1 s5).bind fun y2 => bif !(y1 == y2) then some false else r0 s0 s1 (w64 (s5 + (1 : Int))) else some true
def F_R1_Strings_p0 (fu : Nat) : Nat → x140t0 | 0 => fun _ _ _ => none | n + 1 => F_R1_Strings_b0 fu (F_R1_Strings_p0 fu n)
def F_R1_Strings (fu : Nat) (p0 : List Bs) (p1 : List Bs) : Option Bool := bif (List.length p0 : Int) != (List.length p1 : Int) then some false else F_R1_Strings_p0 fu fu p0 p1 (0 : Int)
/- posthouse/posthouselaw2.viewExample -/
def F_W2_viewExample (fu : Nat) : Option Bool := bif decide (0 < List.length ([(97 : UInt8)] : Bs)) then (F_view_Text fu (Tree.node ([], ([(97 : UInt8)] : Bs)) [])).bind fun x1 => (F_view_Files fu (Tree.node (([(([67, 111, 110, 116, 101, 110, 116, 45, 68, 105, 115, 112, 111, 115, 105, 116, 105, 111, 110] : Bs), ([97, 116, 116, 97, 99, 104, 109, 101, 110, 116, 59, 32, 102, 105, 108, 101, 110, 97, 109, 101, 61, 97, 46, 116, 120, 116] : Bs))] : List (Bs × Bs)), []) [])).bind fun x2 => bif x1.2.1 == (0 : Int) then bif x2.1.1 == (0 : Int) then bif x1.1 == ([97] : Bs) then (F_R1_Strings fu x2.2 ([([97, 46, 116, 120, 116] : Bs)] : List Bs)).bind fun x3 => some x3 else some false else some false else some false else none
/- posthouse/posthouseref1.In -/
def F_R1_In (p0 : Int) (p1 : Int) (p2 : Int) : Option Bool := bif decide (p1 ≤ p0) then some (decide (p0 ≤ p2)) else some false
/- posthouse/posthouseref1.At -/
def F_R1_At (p0 : Int) (p1 : Int) : Option ((Int × Int)) := some (p0, p1)
/- posthouse/posthouselaw2.ViewPlainUnchanged -/
abbrev x144t0 : Type := Bs → Int → Option Bool
def F_W2_ViewPlainUnchanged_b0 (fu : Nat) (r0 : x144t0) : x144t0 := fun s0 s3 => bif decide (s3 < (List.length s0 : Int)) then (idx s0 s3).bind fun y1 => (F_R1_In (y1.toNat : Int) (32 : Int) (126 : Int)).bind fun x2 => bif !x2 then some true else r0 s0 (w64 (s3 + (1 : Int))) else (F_view_Text fu (Tree.node ([], s0) [])).bind fun x3 => bif decide ((998 : Int) < (List.length s0 : Int)) then (F_R1_At (1 : Int) (0 : Int)).bind fun x4 => bif ((x3.2.1 == x4.1) && ((x3.2.2 == x4.2) && true)) then some (x3.1 == ([] : Bs)) else some false else bif x3.2.1 == (0 : Int) then some (x3.1 == s0) else some false
def F_W2_ViewPlainUnchanged_p0 (fu : Nat) : Nat → x144t0 | 0 => fun _ _ => none | n + 1 => F_W2_ViewPlainUnchanged_b0 fu (F_W2_ViewPlainUnchanged_p0 fu n)
def F_W2_ViewPlainUnchanged (fu : Nat) (p0 : Bs) : Option Bool := (F_W2_viewExample fu).bind fun x1 => bif !x1 then some false else F_W2_ViewPlainUnchanged_p0 fu fu p0 (0 : Int)
/- posthouse/transfer.wrong -/
abbrev x145t2 : Type := Bs → UInt8 → Int → Int → UInt8 → Option Int
abbrev x145t1 : Type := Bs → UInt8 → Int → Int → UInt8 → Bool → Option Int
abbrev x145t0 : Type := Bs → UInt8 → Int → Int → Option Int
def F_transfer_wrong_p2 (fu : Nat) (r0 : x145t0) : x145t2 := fun s0 s1 s5 s6 s7 => bif s7 == (0 : UInt8) then some s6 else bif s7 == (13 : UInt8) then some s6 else bif s7 == (10 : UInt8) then some s6 else bif decide (s1 < s7) then some s6 else bif s5 == (998 : Int) then some s6 else r0 s0 s1 (w64 (s5 + (1 : Int))) (w64 (s6 + (1 : Int)))
def F_transfer_wrong_p1 (fu : Nat) (r0 : x145t0) : x145t1 := fun s0 s1 s5 s6 s7 s34 => bif s34 then r0 s0 s1 (0 : Int) (w64 ((w64 (s6 + (1 : Int))) + (1 : Int))) else F_transfer_wrong_p2 fu r0 s0 s1 s5 s6 s7
def F_transfer_wrong_b0 (fu : Nat) (r0 : x145t0) : x145t0 := fun s0 s1 s5 s6 => bif decide (s6 < (List.length s0 : Int)) then (idx s0 s6).bind fun y1 => bif y1 == (13 : UInt8) then bif decide ((w64 (s6 + (1 : Int))) < (List.length s0 : Int)) then (idx s0 (w64 (s6 + (1 : Int)))).bind fun y2 => F_transfer_wrong_p1 fu r0 s0 s1 s5 s6 y1 (y2 == (10 : UInt8)) else F_transfer_wrong_p1 fu r0 s0 s1 s5 s6 y1 false else F_transfer_wrong_p1 fu r0 s0 s1 s5 s6 y1 false else some (-1 : Int)
def F_transfer_wrong_p0 (fu : Nat) : Nat → x145t0 | 0 => fun _ _ _ _ => none | n + 1 => F_transfer_wrong_b0 fu (F_transfer_wrong_p0 fu n)
def F_transfer_wrong (fu : Nat) (p0 : Bs) (p1 : UInt8) : Option Int := F_transfer_wrong_p0 fu fu p0 p1 (0 : Int) (0 : Int)
/- posthouse/transfer.plain$1 -/
def F_transfer_plain_1 (fu : Nat) (p0 : Bs) (p1 : UInt8) : Option ((Int × Int) × UInt8 × Bs) := (F_transfer_wrong fu p0 p1).bind fun x1 => bif decide ((0 : Int) ≤ x1) then (F_basic_Fault (17 : Int) x1).bind fun x2 => some (x2, (p1, [])) else (F_transfer_copied p0).bind fun x3 => some (x3.1, (p1, x3.2))
/- posthouse/base64.groups -/
def F_base64_groups (p0 : Bs) : Option (Bs) := some p0
/- posthouse/base64.Encode (a round) -/
def F_base64_Encode_r0 (p0 : UInt8) (p1 : UInt8) (p2 : UInt8) (p3 : UInt8) (p4 : Int) (p5 : Bs) : Option (Int × Bs) := bif p4 == (76 : Int) then bif decide (List.length (p5 ++ ([(13 : UInt8), (10 : UInt8)] : Bs)) ≤ rowMax) then bif decide (List.length ((p5 ++ ([(13 : UInt8), (10 : UInt8)] : Bs)) ++ ([p0, p1, p2, p3] : Bs)) ≤ rowMax) then some ((4 : Int), (p5 ++ ([(13 : UInt8), (10 : UInt8)] : Bs)) ++ ([p0, p1, p2, p3] : Bs)) else none else none else bif decide (List.length (p5 ++ ([p0, p1, p2, p3] : Bs)) ≤ rowMax) then some (w64 (p4 + (4 : Int)), p5 ++ ([p0, p1, p2, p3] : Bs)) else none
/- posthouse/base64.groups$1 -/
abbrev x149t3 : Type := Int → Int → Bs → Int → Bs → Option (Bs × Int × Bs)
abbrev x149t2 : Type := Int → Int → Bs → Int → Bs → Option (Bs × Int × Bs)
abbrev x149t1 : Type := Int → Int → Bs → Int → Bs → Option (Bs × Int × Bs)
abbrev x149t0 : Type := Bs → Int → Bs → Option (Bs × Int × Bs)
def F_base64_groups_1_p3 (fu : Nat) (r0 : x149t0) : x149t3 := fun s3 s4 m1 m3 m32 => (idx ([65, 66, 67, 68, 69, 70, 71, 72, 73, 74, 75, 76, 77, 78, 79, 80, 81, 82, 83, 84, 85, 86, 87, 88, 89, 90, 97, 98, 99, 100, 101, 102, 103, 104, 105, 106, 107, 108, 109, 110, 111, 112, 113, 114, 115, 116, 117, 118, 119, 120, 121, 122, 48, 49, 50, 51, 52, 53, 54, 55, 56, 57, 43, 47] : Bs) (w64 (((BitVec.ofInt 64 (Int.fdiv s4 (2 ^ min (18 : Int).toNat 64)) &&& BitVec.ofInt 64 (63 : Int)).toNat : Int)))).bind fun c1 => bif decide (s3 < (0 : Int)) then (idx ([65, 66, 67, 68, 69, 70, 71, 72, 73, 74, 75, 76, 77, 78, 79, 80, 81, 82, 83, 84, 85, 86, 87, 88, 89, 90, 97, 98, 99, 100, 101, 102, 103, 104, 105, 106, 107, 108, 109, 110, 111, 112, 113, 114, 115, 116, 117, 118, 119, 120, 121, 122, 48, 49, 50, 51, 52, 53, 54, 55, 56, 57, 43, 47] : Bs) (w64 (((BitVec.ofInt 64 (Int.fdiv s4 (2 ^ min (12 : Int).toNat 64)) &&& BitVec.ofInt 64 (63 : Int)).toNat : Int)))).bind fun c2 => bif decide (s3 < (1 : Int)) then (idx ([65, 66, 67, 68, 69, 70, 71, 72, 73, 74, 75, 76, 77, 78, 79, 80, 81, 82, 83, 84, 85, 86, 87, 88, 89, 90, 97, 98, 99, 100, 101, 102, 103, 104, 105, 106, 107, 108, 109, 110, 111, 112, 113, 114, 115, 116, 117, 118, 119, 120, 121, 122, 48, 49, 50, 51, 52, 53, 54, 55, 56, 57, 43, 47] : Bs) (w64 (((BitVec.ofInt 64 (Int.fdiv s4 (2 ^ min (6 : Int).toNat 64)) &&& BitVec.ofInt 64 (63 : Int)).toNat : Int)))).bind fun c3 => bif decide (s3 < (2 : Int)) then (idx ([65, 66, 67, 68, 69, 70, 71, 72, 73, 74, 75, 76, 77, 78, 79, 80, 81, 82, 83, 84, 85, 86, 87, 88, 89, 90, 97, 98, 99, 100, 101, 102, 103, 104, 105, 106, 107, 108, 109, 110, 111, 112, 113, 114, 115, 116, 117, 118, 119, 120, 121, 122, 48, 49, 50, 51, 52, 53, 54, 55, 56, 57, 43, 47] : Bs) (w64 (((BitVec.ofInt 64 (Int.fdiv s4 (2 ^ min (0 : Int).toNat 64)) &&& BitVec.ofInt 64 (63 : Int)).toNat : Int)))).bind fun c4 => bif decide (s3 < (3 : Int)) then (F_base64_Encode_r0 (61 : UInt8) (61 : UInt8) (61 : UInt8) (61 : UInt8) m3 m32).bind fun x5 => bif decide (0 ≤ s3 ∧ s3 ≤ (List.length m1 : Int)) then r0 (List.drop s3.toNat m1) x5.1 x5.2 else none else (F_base64_Encode_r0 (61 : UInt8) (61 : UInt8) (61 : UInt8) c4 m3 m32).bind fun x6 => bif decide (0 ≤ s3 ∧ s3 ≤ (List.length m1 : Int)) then r0 (List.drop s3.toNat m1) x6.1 x6.2 else none else (idx ([65, 66, 67, 68, 69, 70, 71, 72, 73, 74, 75, 76, 77, 78, 79, 80, 81, 82, 83, 84, 85, 86, 87, 88, 89, 90, 97, 98, 99, 100, 101, 102, 103, 104, 105, 106, 107, 108, 109, 110, 111, 112, 113, 114, 115, 116, 117, 118, 119, 120, 121, 122, 48, 49, 50, 51, 52, 53, 54, 55, 56, 57, 43, 47] : Bs) (w64 (((BitVec.ofInt 64 (Int.fdiv s4 (2 ^ min (0 : Int).toNat 64)) &&& BitVec.ofInt 64 (63 : Int)).toNat : Int)))).bind fun c7 => bif decide (s3 < (3 : Int)) then (F_base64_Encode_r0 (61 : UInt8) (61 : UInt8) c3 (61 : UInt8) m3 m32).bind fun x8 => bif decide (0 ≤ s3 ∧ s3 ≤ (List.length m1 : Int)) then r0 (List.drop s3.toNat m1) x8.1 x8.2 else none else (F_base64_Encode_r0 (61 : UInt8) (61 : UInt8) c3 c7 m3 m32).bind fun x9 => bif decide (0 ≤ s3 ∧ s3 ≤ (List.length m1 : Int)) then r0 (List.drop s3.toNat m1) x9.1 x9.2 else none else (idx ([65, 66, 67, 68, 69, 70, 71, 72, 73, 74, 75, 76, 77, 78, 79, 80, 81, 82, 83, 84, 85, 86, 87, 88, 89, 90, 97, 98, 99, 100, 101, 102, 103, 104, 105, 106, 107, 108, 109, 110, 111, 112, 113, 114, 115, 116, 117, 118, 119, 120, 121, 122, 48, 49, 50, 51, 52, 53, 54, 55, 56, 57, 43, 47] : Bs) (w64 (((BitVec.ofInt 64 (Int.fdiv s4 (2 ^ min (6 : Int).toNat 64)) &&& BitVec.ofInt 64 (63 : Int)).toNat : Int)))).bind fun c10 => bif decide (s3 < (2 : Int)) then (idx ([65, 66, 67, 68, 69, 70, 71, 72, 73, 74, 75, 76, 77, 78, 79, 80, 81, 82, 83, 84, 85, 86, 87, 88, 89, 90, 97, 98, 99, 100, 101, 102, 103, 104, 105, 106, 107, 108, 109, 110, 111, 112, 113, 114, 115, 116, 117, 118, 119, 120, 121, 122, 48, 49, 50, 51, 52, 53, 54, 55, 56, 57, 43, 47] : Bs) (w64 (((BitVec.ofInt 64 (Int.fdiv s4 (2 ^ min (0 : Int).toNat 64)) &&& BitVec.ofInt 64 (63 : Int)).toNat : Int)))).bind fun c11 => bif decide (s3 < (3 : Int)) then (F_base64_Encode_r0 (61 : UInt8) c2 (61 : UInt8) (61 : UInt8) m3 m32).bind fun x12 => bif decide (0 ≤ s3 ∧ s3 ≤ (List.length m1 : Int)) then r0 (List.drop s3.toNat m1) x12.1 x12.2 else none else (F_base64_Encode_r0 (61 : UInt8) c2 (61 : UInt8) c11 m3 m32).bind fun x13 => bif decide (0 ≤ s3 ∧ s3 ≤ (List.length m1 : Int)) then r0 (List.drop s3.toNat m1) x13.1 x13.2 else none else (idx ([65, 66, 67, 68, 69, 70, 71, 72, 73, 74, 75, 76, 77, 78, 79, 80, 81, 82, 83, 84, 85, 86, 87, 88, 89, 90, 97, 98, 99, 100, 101, 102, 103, 104, 105, 106, 107, 108, 109, 110, 111, 112, 113, 114, 115, 116, 117, 118, 119, 120, 121, 122, 48, 49, 50, 51, 52, 53, 54, 55, 56, 57, 43, 47] : Bs) (w64 (((BitVec.ofInt 64 (Int.fdiv s4 (2 ^ min (0 : Int).toNat 64)) &&& BitVec.ofInt 64 (63 : Int)).toNat : Int)))).bind fun c14 => bif decide (s3 < (3 : Int)) then (F_base64_Encode_r0 (61 : UInt8) c2 c10 (61 : UInt8) m3 m32).bind fun x15 => bif decide (0 ≤ s3 ∧ s3 ≤ (List.length m1 : Int)) then r0 (List.drop s3.toNat m1) x15.1 x15.2 else none else (F_base64_Encode_r0 (61 : UInt8) c2 c10 c14 m3 m32).bind fun x16 => bif decide (0 ≤ s3 ∧ s3 ≤ (List.length m1 : Int)) then r0 (List.drop s3.toNat m1) x16.1 x16.2 else none else (idx ([65, 66, 67, 68, 69, 70, 71, 72, 73, 74, 75, 76, 77, 78, 79, 80, 81, 82, 83, 84, 85, 86, 87, 88, 89, 90, 97, 98, 99, 100, 101, 102, 103, 104, 105, 106, 107, 108, 109, 110, 111, 112, 113, 114, 115, 116, 117, 118, 119, 120, 121, 122, 48, 49, 50, 51, 52, 53, 54, 55, 56, 57, 43, 47] : Bs) (w64 (((BitVec.ofInt 64 (Int.fdiv s4 (2 ^ min (12 : Int).toNat 64)) &&& BitVec.ofInt 64 (63 : Int)).toNat : Int)))).bind fun c17 => bif decide (s3 < (1 : Int)) then (idx ([65, 66, 67, 68, 69, 70, 71, 72, 73, 74, 75, 76, 77, 78, 79, 80, 81, 82, 83, 84, 85, 86, 87, 88, 89, 90, 97, 98, 99, 100, 101, 102, 103, 104, 105, 106, 107, 108, 109, 110, 111, 112, 113, 114, 115, 116, 117, 118, 119, 120, 121, 122, 48, 49, 50, 51, 52, 53, 54, 55, 56, 57, 43, 47] : Bs) (w64 (((BitVec.ofInt 64 (Int.fdiv s4 (2 ^ min (6 : Int).toNat 64)) &&& BitVec.ofInt 64 (63 : Int)).toNat : Int)))).bind fun c18 => bif decide (s3 < (2 : Int)) then (idx ([65, 66, 67, 68, 69, 70, 71, 72, 73, 74, 75, 76, 77, 78, 79, 80, 81, 82, 83, 84, 85, 86, 87, 88, 89, 90, 97, 98, 99, 100, 101, 102, 103, 104, 105, 106, 107, 108, 109, 110, 111, 112, 113, 114, 115, 116, 117, 118, 119, 120, 121, 122, 48, 49, 50, 51, 52, 53, 54, 55, 56, 57, 43, 47] : Bs) (w64 (((BitVec.ofInt 64 (Int.fdiv s4 (2 ^ min (0 : Int).toNat 64)) &&& BitVec.ofInt 64 (63 : Int)).toNat : Int)))).bind fun c19 => bif decide (s3 < (3 : Int)) then (F_base64_Encode_r0 c1 (61 : UInt8) (61 : UInt8) (61 : UInt8) m3 m32).bind fun x20 => bif decide (0 ≤ s3 ∧ s3 ≤ (List.length m1 : Int)) then r0 (List.drop s3.toNat m1) x20.1 x20.2 else none else (F_base64_Encode_r0 c1 (61 : UInt8) (61 : UInt8) c19 m3 m32).bind fun x21 => bif decide (0 ≤ s3 ∧ s3 ≤ (List.length m1 : Int)) then r0 (List.drop s3.toNat m1) x21.1 x21.2 else none else (idx ([65, 66, 67, 68, 69, 70, 71, 72, 73, 74, 75, 76, 77, 78, 79, 80, 81, 82, 83, 84, 85, 86, 87, 88, 89, 90, 97, 98, 99, 100, 101, 102, 103, 104, 105, 106, 107, 108, 109, 110, 111, 112, 113, 114, 115, 116, 117, 118, 119, 120, 121, 122, 48, 49, 50, 51, 52, 53, 54, 55, 56, 57, 43, 47] : Bs) (w64 (((BitVec.ofInt 64 (Int.fdiv s4 (2 ^ min (0 : Int).toNat 64)) &&& BitVec.ofInt 64 (63 : Int)).toNat : Int)))).bind fun c22 => bif decide (s3 < (3 : Int)) then (F_base64_Encode_r0 c1 (61 : UInt8) c18 (61 : UInt8) m3 m32).bind fun x23 => bif decide (0 ≤ s3 ∧ s3 ≤ (List.length m1 : Int)) then r0 (List.drop s3.toNat m1) x23.1 x23.2 else none else (F_base64_Encode_r0 c1 (61 : UInt8) c18 c22 m3 m32).bind fun x24 => bif decide (0 ≤ s3 ∧ s3 ≤ (List.length m1 : Int)) then r0 (List.drop s3.toNat m1) x24.1 x24.2 else none else (idx ([65, 66, 67, 68, 69, 70, 71, 72, 73, 74, 75, 76, 77, 78, 79, 80, 81, 82, 83, 84, 85, 86, 87, 88, 89, 90, 97, 98, 99, 100, 101, 102, 103, 104, 105, 106, 107, 108, 109, 110, 111, 112, 113, 114, 115, 116, 117, 118, 119, 120, 121, 122, 48, 49, 50, 51, 52, 53, 54, 55, 56, 57, 43, 47] : Bs) (w64 (((BitVec.ofInt 64 (Int.fdiv s4 (2 ^ min (6 : Int).toNat 64)) &&& BitVec.ofInt 64 (63 : Int)).toNat : Int)))).bind fun c25 => bif decide (s3 < (2 : Int)) then (idx ([65, 66, 67, 68, 69, 70, 71, 72, 73, 74, 75, 76, 77, 78, 79, 80, 81, 82, 83, 84, 85, 86, 87, 88, 89, 90, 97, 98, 99, 100, 101, 102, 103, 104, 105, 106, 107, 108, 109, 110, 111, 112, 113, 114, 115, 116, 117, 118, 119, 120, 121, 122, 48, 49, 50, 51, 52, 53, 54, 55, 56, 57, 43, 47] : Bs) (w64 (((BitVec.ofInt 64 (Int.fdiv s4 (2 ^ min (0 : Int).toNat 64)) &&& BitVec.ofInt 64 (63 : Int)).toNat : Int)))).bind fun c26 => bif decide (s3 < (3 : Int)) then (F_base64_Encode_r0 c1 c17 (61 : UInt8) (61 : UInt8) m3 m32).bind fun x27 => bif decide (0 ≤ s3 ∧ s3 ≤ (List.length m1 : Int)) then r0 (List.drop s3.toNat m1) x27.1 x27.2 else none else (F_base64_Encode_r0 c1 c17 (61 : UInt8) c26 m3 m32).bind fun x28 => bif decide (0 ≤ s3 ∧ s3 ≤ (List.length m1 : Int)) then r0 (List.drop s3.toNat m1) x28.1 x28.2 else none else (idx ([65, 66, 67, 68, 69, 70, 71, 72, 73, 74, 75, 76, 77, 78, 79, 80, 81, 82, 83, 84, 85, 86, 87, 88, 89, 90, 97, 98, 99, 100, 101, 102, 103, 104, 105, 106, 107, 108, 109, 110, 111, 112, 113, 114, 115, 116, 117, 118, 119, 120, 121, 122, 48, 49, 50, 51, 52, 53, 54, 55, 56, 57, 43, 47] : Bs) (w64 (((BitVec.ofInt 64 (Int.fdiv s4 (2 ^ min (0 : Int).toNat 64)) &&& BitVec.ofInt 64 (63 : Int)).toNat : Int)))).bind fun c29 => bif decide (s3 < (3 : Int)) then (F_base64_Encode_r0 c1 c17 c25 (61 : UInt8) m3 m32).bind fun x30 => bif decide (0 ≤ s3 ∧ s3 ≤ (List.length m1 : Int)) then r0 (List.drop s3.toNat m1) x30.1 x30.2 else none else (F_base64_Encode_r0 c1 c17 c25 c29 m3 m32).bind fun x31 => bif decide (0 ≤ s3 ∧ s3 ≤ (List.length m1 : Int)) then r0 (List.drop s3.toNat m1) x31.1 x31.2 else none
def F_base64_groups_1_p2 (fu : Nat) (r0 : x149t0) : x149t2 := fun s3 s4 m1 m3 m32 => bif decide ((2 : Int) < s3) then (idx m1 (2 : Int)).bind fun y1 => F_base64_groups_1_p3 fu r0 s3 (w64 (((BitVec.ofInt 64 (w64 (s4 * 2 ^ min (8 : Int).toNat 64)) ||| BitVec.ofInt 64 (y1.toNat : Int)).toNat : Int))) m1 m3 m32 else F_base64_groups_1_p3 fu r0 s3 (w64 (s4 * 2 ^ min (8 : Int).toNat 64)) m1 m3 m32
def F_base64_groups_1_p1 (fu : Nat) (r0 : x149t0) : x149t1 := fun s3 s4 m1 m3 m32 => bif decide ((1 : Int) < s3) then (idx m1 (1 : Int)).bind fun y1 => F_base64_groups_1_p2 fu r0 s3 (w64 (((BitVec.ofInt 64 (w64 (s4 * 2 ^ min (8 : Int).toNat 64)) ||| BitVec.ofInt 64 (y1.toNat : Int)).toNat : Int))) m1 m3 m32 else F_base64_groups_1_p2 fu r0 s3 (w64 (s4 * 2 ^ min (8 : Int).toNat 64)) m1 m3 m32
def F_base64_groups_1_b0 (fu : Nat) (r0 : x149t0) : x149t0 := fun m1 m3 m32 => bif decide ((0 : Int) < (List.length m1 : Int)) then bif decide ((0 : Int) < (if (List.length m1 : Int) < (3 : Int) then (List.length m1 : Int) else (3 : Int))) then (idx m1 (0 : Int)).bind fun y1 => F_base64_groups_1_p1 fu r0 (if (List.length m1 : Int) < (3 : Int) then (List.length m1 : Int) else (3 : Int)) (w64 (((BitVec.ofInt 64 (0 : Int) ||| BitVec.ofInt 64 (y1.toNat : Int)).toNat : Int))) m1 m3 m32 else F_base64_groups_1_p1 fu r0 (if (List.length m1 : Int) < (3 : Int) then (List.length m1 : Int) else (3 : Int)) (0 : Int) m1 m3 m32 else some (m1, (m3, m32))
def F_base64_groups_1_p0 (fu : Nat) : Nat → x149t0 | 0 => fun _ _ _ => none | n + 1 => F_base64_groups_1_b0 fu (F_base64_groups_1_p0 fu n)
def F_base64_groups_1 (fu : Nat) (p0 : Bs) (p1 : Int) (p2 : Bs) : Option (Bs × Int × Bs) := F_base64_groups_1_p0 fu fu p0 p1 p2
/- posthouse/base64.Encode -/
def F_base64_Encode (fu : Nat) (p0 : Bs) : Option ((Int × Int) × Bs) := bif decide ((12000 : Int) < (List.length p0 : Int)) then (F_basic_Fault (1 : Int) (-1 : Int)).bind fun x1 => some (x1, []) else (F_base64_groups p0).bind fun x2 => (F_base64_groups_1 fu x2 (0 : Int) []).bind fun x3 => bif decide ((0 : Int) < x3.2.1) then bif decide (List.length (x3.2.2 ++ ([(13 : UInt8), (10 : UInt8)] : Bs)) ≤ rowMax) then (F_basic_None).bind fun x4 => some (x4, x3.2.2 ++ ([(13 : UInt8), (10 : UInt8)] : Bs)) else none else (F_basic_None).bind fun x5 => some (x5, x3.2.2)
/- posthouse/quoted.line -/
def F_quoted_line (p0 : Bs) : Option Bool := bif decide ((2 : Int) ≤ (List.length p0 : Int)) then (idx p0 (0 : Int)).bind fun y1 => bif y1 == (13 : UInt8) then (idx p0 (1 : Int)).bind fun y2 => some (y2 == (10 : UInt8)) else some false else some false
/- posthouse/basic.Digit -/
def F_basic_Digit (p0 : UInt8) : Option UInt8 := (([48, 49, 50, 51, 52, 53, 54, 55, 56, 57, 65, 66, 67, 68, 69, 70] : Bs)[(p0 &&& (15 : UInt8)).toNat]?).bind fun c1 => some c1
/- posthouse/quoted.sign -/
abbrev x153t0 : Type := UInt8 → Bool → Option (Bs)
def F_quoted_sign_p0 : x153t0 := fun s0 s5 => bif decide ((33 : UInt8) ≤ s0) then bif decide (s0 ≤ (126 : UInt8)) then bif s0 != (61 : UInt8) then some ([s0] : Bs) else (F_basic_Blank s0).bind fun x1 => bif x1 then bif !s5 then some ([s0] : Bs) else (F_basic_Digit (u8shr s0 (min (4 : Int).toNat 8))).bind fun x2 => (F_basic_Digit s0).bind fun x3 => some ([(61 : UInt8), x2, x3] : Bs) else (F_basic_Digit (u8shr s0 (min (4 : Int).toNat 8))).bind fun x4 => (F_basic_Digit s0).bind fun x5 => some ([(61 : UInt8), x4, x5] : Bs) else (F_basic_Blank s0).bind fun x6 => bif x6 then bif !s5 then some ([s0] : Bs) else (F_basic_Digit (u8shr s0 (min (4 : Int).toNat 8))).bind fun x7 => (F_basic_Digit s0).bind fun x8 => some ([(61 : UInt8), x7, x8] : Bs) else (F_basic_Digit (u8shr s0 (min (4 : Int).toNat 8))).bind fun x9 => (F_basic_Digit s0).bind fun x10 => some ([(61 : UInt8), x9, x10] : Bs) else (F_basic_Blank s0).bind fun x11 => bif x11 then bif !s5 then some ([s0] : Bs) else (F_basic_Digit (u8shr s0 (min (4 : Int).toNat 8))).bind fun x12 => (F_basic_Digit s0).bind fun x13 => some ([(61 : UInt8), x12, x13] : Bs) else (F_basic_Digit (u8shr s0 (min (4 : Int).toNat 8))).bind fun x14 => (F_basic_Digit s0).bind fun x15 => some ([(61 : UInt8), x14, x15] : Bs)
def F_quoted_sign (p0 : UInt8) (p1 : Bs) : Option (Bs) := bif (List.length p1 : Int) == (0 : Int) then F_quoted_sign_p0 p0 true else (F_quoted_line p1).bind fun x1 => F_quoted_sign_p0 p0 x1
/- posthouse/quoted.Encode -/
abbrev x154t3 : Type := Bs → Int → Int → (Int × Int) → Bs → Bs → Option ((Int × Int) × Bs)
abbrev x154t2 : Type := Bs → Int → Int → Int → (Int × Int) → Bs → Bs → Option ((Int × Int) × Bs)
abbrev x154t1 : Type := Bs → Int → Int → Bool → (Int × Int) → Bs → Bs → Option ((Int × Int) × Bs)
abbrev x154t0 : Type := Bs → Int → Int → (Int × Int) → Bs → Option ((Int × Int) × Bs)
def F_quoted_Encode_p3 (fu : Nat) (r0 : x154t0) : x154t3 := fun s0 s5 s6 m32 m33 m34 => bif decide (List.length (m33 ++ m34) ≤ rowMax) then r0 s0 (w64 (s5 + (List.length m34 : Int))) (w64 (s6 + (1 : Int))) m32 (m33 ++ m34) else none
def F_quoted_Encode_p2 (fu : Nat) (r0 : x154t0) : x154t2 := fun s0 s5 s6 s9 m32 m33 m34 => bif decide (s9 < (w64 (s5 + (List.length m34 : Int)))) then bif decide (List.length (m33 ++ ([(61 : UInt8), (13 : UInt8), (10 : UInt8)] : Bs)) ≤ rowMax) then F_quoted_Encode_p3 fu r0 s0 (0 : Int) s6 m32 (m33 ++ ([(61 : UInt8), (13 : UInt8), (10 : UInt8)] : Bs)) m34 else none else F_quoted_Encode_p3 fu r0 s0 s5 s6 m32 m33 m34
def F_quoted_Encode_p1 (fu : Nat) (r0 : x154t0) : x154t1 := fun s0 s5 s6 s46 m32 m33 m34 => bif s46 then F_quoted_Encode_p2 fu r0 s0 s5 s6 (75 : Int) m32 m34 m33 else F_quoted_Encode_p2 fu r0 s0 s5 s6 (76 : Int) m32 m34 m33
def F_quoted_Encode_b0 (fu : Nat) (r0 : x154t0) : x154t0 := fun s0 s5 s6 m32 m33 => bif decide (s6 < (List.length s0 : Int)) then bif decide (0 ≤ s6 ∧ s6 ≤ (List.length s0 : Int)) then (F_quoted_line (List.drop s6.toNat s0)).bind fun x1 => bif x1 then bif decide (List.length (m33 ++ ([(13 : UInt8), (10 : UInt8)] : Bs)) ≤ rowMax) then r0 s0 (0 : Int) (w64 ((w64 (s6 + (1 : Int))) + (1 : Int))) m32 (m33 ++ ([(13 : UInt8), (10 : UInt8)] : Bs)) else none else bif decide (0 ≤ w64 (s6 + (1 : Int)) ∧ w64 (s6 + (1 : Int)) ≤ (List.length s0 : Int)) then (idx s0 s6).bind fun y2 => (F_quoted_sign y2 (List.drop (w64 (s6 + (1 : Int))).toNat s0)).bind fun x3 => bif decide ((0 : Int) < (List.length (List.drop (w64 (s6 + (1 : Int))).toNat s0) : Int)) then (F_quoted_line (List.drop (w64 (s6 + (1 : Int))).toNat s0)).bind fun x4 => F_quoted_Encode_p1 fu r0 s0 s5 s6 (!x4) m32 x3 m33 else F_quoted_Encode_p1 fu r0 s0 s5 s6 false m32 x3 m33 else none else none else (F_basic_None).bind fun x5 => some (x5, m33)
def F_quoted_Encode_p0 (fu : Nat) : Nat → x154t0 | 0 => fun _ _ _ _ _ => none | n + 1 => F_quoted_Encode_b0 fu (F_quoted_Encode_p0 fu n)
def F_quoted_Encode (fu : Nat) (p0 : Bs) : Option ((Int × Int) × Bs) := bif decide ((12000 : Int) < (List.length p0 : Int)) then (F_basic_Fault (1 : Int) (-1 : Int)).bind fun x1 => some (x1, []) else F_quoted_Encode_p0 fu fu p0 (0 : Int) (0 : Int) ((0 : Int), (0 : Int)) []
/- posthouse/transfer.Encode -/
def F_transfer_Encode (fu : Nat) (p0 : Bs) (p1 : Bs) : Option ((Int × Int) × Bs) := (F_transfer_valid fu p0 p1).bind fun x1 => sumK x1 (fun a2 => (F_basic_Failed a2.2.1).bind fun x8 => bif x8 then some (a2.2.1, []) else (F_transfer_plain_1 fu p0 a2.2.2).bind fun x9 => some (x9.1, x9.2.2)) (fun b3 => sumK b3 (fun a4 => (F_basic_Failed a4.2).bind fun x10 => bif x10 then some (a4.2, []) else (F_base64_Encode fu p0).bind fun x11 => some x11) (fun b5 => sumK b5 (fun a6 => (F_basic_Failed a6.2).bind fun x12 => bif x12 then some (a6.2, []) else (F_quoted_Encode fu p0).bind fun x13 => some x13) (fun b7 => (F_basic_Failed b7.2).bind fun x14 => bif x14 then some (b7.2, []) else none)))
/- posthouse/posthouselaw2.ViewEncodingIrrelevant -/
abbrev x156t1 : Type := Bs → Bs → Bs → Bs → Option Bool
abbrev x156t0 : Type := Bs → Bs → Bool → Bs → (Int × Int) → Bs → Option Bool
def F_W2_ViewEncodingIrrelevant_p1 (fu : Nat) : x156t1 := fun s1 s2 m32 m33 => (F_view_Text fu (Tree.node (([(([67, 111, 110, 116, 101, 110, 116, 45, 84, 114, 97, 110, 115, 102, 101, 114, 45, 69, 110, 99, 111, 100, 105, 110, 103] : Bs), s1)] : List (Bs × Bs)), m32) [])).bind fun x1 => (F_view_Text fu (Tree.node (([(([67, 111, 110, 116, 101, 110, 116, 45, 84, 114, 97, 110, 115, 102, 101, 114, 45, 69, 110, 99, 111, 100, 105, 110, 103] : Bs), s2)] : List (Bs × Bs)), m33) [])).bind fun x2 => bif x1.2.1 == (0 : Int) then bif x2.2.1 == (0 : Int) then some (x1.1 == x2.1) else some false else some false
def F_W2_ViewEncodingIrrelevant_p0 (fu : Nat) : x156t0 := fun s1 s2 s46 m32 m33 m34 => bif s46 then bif m33.1 == (0 : Int) then some true else some ((List.length m32 : Int) == (0 : Int)) else F_W2_ViewEncodingIrrelevant_p1 fu s1 s2 m32 m34
def F_W2_ViewEncodingIrrelevant (fu : Nat) (p0 : Bs) (p1 : Bs) (p2 : Bs) : Option Bool := (F_W2_viewExample fu).bind fun x1 => bif !x1 then some false else (F_transfer_Encode fu p0 p1).bind fun x2 => (F_transfer_Encode fu p0 p2).bind fun x3 => bif x2.1.1 != (0 : Int) then F_W2_ViewEncodingIrrelevant_p0 fu p1 p2 true x2.2 x2.1 x3.2 else bif x3.1.1 != (0 : Int) then F_W2_ViewEncodingIrrelevant_p0 fu p1 p2 true x2.2 x2.1 x3.2 else bif decide ((12000 : Int) < (List.length x2.2 : Int)) then F_W2_ViewEncodingIrrelevant_p0 fu p1 p2 true x2.2 x2.1 x3.2 else F_W2_ViewEncodingIrrelevant_p0 fu p1 p2 (decide ((12000 : Int) < (List.length x3.2 : Int))) x2.2 x2.1 x3.2
end Go.Sym
/-
  DERIVED: THE SHELF's CONTRACTS AT THIS DUMP, IN PLAIN WORDS (tools/lay-plain.mjs out of 'TryhShelf.lean', which tools/lay-shelf.mjs wrote): THE SAME DECLARATIONS UNDER THE SAME NAMES: 'import', 'namespace', 'open', 'def', 'theorem' AND NOTHING ELSE: no command of the shelf's: FOR A HAND-IN. Each laying: the table of numbers ('.._ren') and one theorem, a field a fact of the dump's own or the kernel's comparison; each contract: ONE APPLICATION.
-/
namespace Go.Proofs
open Go.Shelf
def Tryz.laysM171_ren : Go.Shelf.Ren := ⟨fun | 171 => 161 | 243 => 192 | 246 => 207 | 283 => 227 | 284 => 228 | 285 => 229 | 286 => 230 | 129 => 219 | 317 => 242 | 318 => 243 | 319 => 244 | 320 => 245 | 337 => 257 | 338 => 258 | n => n, fun | 3 => 3 | 9 => 9 | 2 => 2 | 4 => 4 | 171 => 280 | 0 => 0 | 53 => 213 | 37 => 22 | 5 => 5 | 173 => 282 | 212 => 305 | 51 => 178 | 20 => 20 | 213 => 306 | 46 => 148 | 232 => 323 | 233 => 324 | n => n, fun | 17 => 5 | 18 => 6 | 19 => 7 | n => n⟩
theorem Tryz.laysM171 : Go.Proofs.LaysM.n171 Tryz.prog Tryz.laysM171_ren := {
  mixed := by kernel_rfl
  f129 := Tryz.func219.trans (congrArg some (by kernel_rfl))
  f171 := Tryz.func161.trans (congrArg some (by kernel_rfl))
  f243 := Tryz.func192.trans (congrArg some (by kernel_rfl))
  f246 := Tryz.func207.trans (congrArg some (by kernel_rfl))
  f283 := Tryz.func227.trans (congrArg some (by kernel_rfl))
  f284 := Tryz.func228.trans (congrArg some (by kernel_rfl))
  f285 := Tryz.func229.trans (congrArg some (by kernel_rfl))
  f286 := Tryz.func230.trans (congrArg some (by kernel_rfl))
  f317 := Tryz.func242.trans (congrArg some (by kernel_rfl))
  f318 := Tryz.func243.trans (congrArg some (by kernel_rfl))
  f319 := Tryz.func244.trans (congrArg some (by kernel_rfl))
  f320 := Tryz.func245.trans (congrArg some (by kernel_rfl))
  f337 := Tryz.func257.trans (congrArg some (by kernel_rfl))
  f338 := Tryz.func258.trans (congrArg some (by kernel_rfl))
  t0 := Tryz.underlying0
  a0 := Tryz.isAgg0
  z0 := Tryz.sizeOf0
  v0 := Tryz.zeroValue0
  t2 := Tryz.underlying2
  a2 := Tryz.isAgg2
  z2 := Tryz.sizeOf2
  v2 := Tryz.zeroValue2
  t3 := Tryz.underlying3
  a3 := Tryz.isAgg3
  z3 := Tryz.sizeOf3
  v3 := Tryz.zeroValue3
  t4 := Tryz.underlying4
  a4 := Tryz.isAgg4
  z4 := Tryz.sizeOf4
  v4 := Tryz.zeroValue4
  t5 := Tryz.underlying5
  a5 := Tryz.isAgg5
  z5 := Tryz.sizeOf5
  v5 := Tryz.zeroValue5
  t9 := Tryz.underlying9
  a9 := Tryz.isAgg9
  z9 := Tryz.sizeOf9
  v9 := Tryz.zeroValue9
  t20 := Tryz.underlying20
  a20 := Tryz.isAgg20
  z20 := Tryz.sizeOf20
  v20 := Tryz.zeroValue20
  t37 := Tryz.underlying22
  a37 := Tryz.isAgg22
  z37 := Tryz.sizeOf22
  v37 := Tryz.zeroValue22
  t46 := Tryz.underlying148
  a46 := Tryz.isAgg148
  z46 := Tryz.sizeOf148
  v46 := Tryz.zeroValue148
  t51 := Tryz.underlying178
  a51 := Tryz.isAgg178
  z51 := Tryz.sizeOf178
  v51 := Tryz.zeroValue178
  t53 := Tryz.underlying213
  a53 := Tryz.isAgg213
  z53 := Tryz.sizeOf213
  v53 := Tryz.zeroValue213
  t171 := Tryz.underlying280
  a171 := Tryz.isAgg280
  z171 := Tryz.sizeOf280
  v171 := Tryz.zeroValue280
  t173 := Tryz.underlying282
  a173 := Tryz.isAgg282
  z173 := Tryz.sizeOf282
  v173 := Tryz.zeroValue282
  t212 := Tryz.underlying305
  a212 := Tryz.isAgg305
  z212 := Tryz.sizeOf305
  v212 := Tryz.zeroValue305
  t213 := Tryz.underlying306
  a213 := Tryz.isAgg306
  z213 := Tryz.sizeOf306
  t232 := Tryz.underlying323
  a232 := Tryz.isAgg323
  z232 := Tryz.sizeOf323
  v232 := Tryz.zeroValue323
  t233 := Tryz.underlying324
  a233 := Tryz.isAgg324
  z233 := Tryz.sizeOf324
  v233 := Tryz.zeroValue324
  g17 := by kernel_rfl
  g18 := by kernel_rfl
  g19 := by kernel_rfl
  i0 := by kernel_rfl
  i2 := by kernel_rfl
  i3 := by kernel_rfl
  i4 := by kernel_rfl
  i5 := by kernel_rfl
  i9 := by kernel_rfl
  i20 := by kernel_rfl
  i37 := by kernel_rfl
  i46 := by kernel_rfl
  i51 := by kernel_rfl
  i53 := by kernel_rfl
  i171 := by kernel_rfl
  i173 := by kernel_rfl
  i212 := by kernel_rfl
  i232 := by kernel_rfl
  i233 := by kernel_rfl
  m17 := by kernel_rfl
  m18 := by kernel_rfl
  m19 := by kernel_rfl }
def Tryz.lays185_ren : Go.Shelf.Ren := ⟨fun | 185 => 164 | 187 => 94 | 115 => 144 | 253 => 193 | 224 => 167 | 254 => 194 | 255 => 137 | 291 => 208 | n => n, fun | 37 => 22 | 3 => 3 | 4 => 4 | 0 => 0 | 5 => 5 | 46 => 148 | 9 => 9 | 146 => 243 | 51 => 178 | n => n, fun | 1 => 2 | n => n⟩
theorem Tryz.lays185 : Go.Proofs.Lays.n185 Tryz.prog Tryz.lays185_ren := {
  mixed := by kernel_rfl
  f115 := Tryz.func144.trans (congrArg some (by kernel_rfl))
  f185 := Tryz.func164.trans (congrArg some (by kernel_rfl))
  f187 := Tryz.func94.trans (congrArg some (by kernel_rfl))
  f224 := Tryz.func167.trans (congrArg some (by kernel_rfl))
  f253 := Tryz.func193.trans (congrArg some (by kernel_rfl))
  f254 := Tryz.func194.trans (congrArg some (by kernel_rfl))
  f255 := Tryz.func137.trans (congrArg some (by kernel_rfl))
  f291 := Tryz.func208.trans (congrArg some (by kernel_rfl))
  t0 := Tryz.underlying0
  a0 := Tryz.isAgg0
  z0 := Tryz.sizeOf0
  v0 := Tryz.zeroValue0
  t3 := Tryz.underlying3
  a3 := Tryz.isAgg3
  z3 := Tryz.sizeOf3
  v3 := Tryz.zeroValue3
  t4 := Tryz.underlying4
  a4 := Tryz.isAgg4
  z4 := Tryz.sizeOf4
  v4 := Tryz.zeroValue4
  t5 := Tryz.underlying5
  a5 := Tryz.isAgg5
  z5 := Tryz.sizeOf5
  v5 := Tryz.zeroValue5
  t9 := Tryz.underlying9
  a9 := Tryz.isAgg9
  z9 := Tryz.sizeOf9
  v9 := Tryz.zeroValue9
  t37 := Tryz.underlying22
  a37 := Tryz.isAgg22
  z37 := Tryz.sizeOf22
  v37 := Tryz.zeroValue22
  t46 := Tryz.underlying148
  a46 := Tryz.isAgg148
  z46 := Tryz.sizeOf148
  v46 := Tryz.zeroValue148
  t51 := Tryz.underlying178
  a51 := Tryz.isAgg178
  z51 := Tryz.sizeOf178
  v51 := Tryz.zeroValue178
  t146 := Tryz.underlying243
  a146 := Tryz.isAgg243
  z146 := Tryz.sizeOf243
  v146 := Tryz.zeroValue243
  g1 := by kernel_rfl }
def Tryz.lays155_ren : Go.Shelf.Ren := ⟨fun | 155 => 29 | 154 => 50 | 138 => 77 | 165 => 78 | 143 => 79 | 166 => 31 | 197 => 80 | 169 => 35 | 195 => 122 | 218 => 123 | 240 => 52 | 241 => 124 | 219 => 125 | 260 => 126 | 276 => 82 | 277 => 165 | 217 => 51 | 225 => 166 | 224 => 167 | 267 => 168 | 266 => 81 | 314 => 195 | n => n, fun | 9 => 9 | 3 => 3 | 4 => 4 | 72 => 79 | 0 => 0 | 76 => 83 | 105 => 131 | 21 => 21 | 5 => 5 | 70 => 77 | 20 => 20 | 37 => 22 | 75 => 82 | 127 => 115 | 164 => 133 | 46 => 148 | 119 => 174 | 139 => 177 | 138 => 176 | 146 => 243 | 51 => 178 | 80 => 87 | n => n, fun | 1 => 2 | 3 => 0 | 4 => 1 | n => n⟩
theorem Tryz.lays155 : Go.Proofs.Lays.n155 Tryz.prog Tryz.lays155_ren := {
  mixed := by kernel_rfl
  f138 := Tryz.func77.trans (congrArg some (by kernel_rfl))
  f143 := Tryz.func79.trans (congrArg some (by kernel_rfl))
  f154 := Tryz.func50.trans (congrArg some (by kernel_rfl))
  f155 := Tryz.func29.trans (congrArg some (by kernel_rfl))
  f165 := Tryz.func78.trans (congrArg some (by kernel_rfl))
  f166 := Tryz.func31.trans (congrArg some (by kernel_rfl))
  f169 := Tryz.func35.trans (congrArg some (by kernel_rfl))
  f195 := Tryz.func122.trans (congrArg some (by kernel_rfl))
  f197 := Tryz.func80.trans (congrArg some (by kernel_rfl))
  f217 := Tryz.func51.trans (congrArg some (by kernel_rfl))
  f218 := Tryz.func123.trans (congrArg some (by kernel_rfl))
  f219 := Tryz.func125.trans (congrArg some (by kernel_rfl))
  f224 := Tryz.func167.trans (congrArg some (by kernel_rfl))
  f225 := Tryz.func166.trans (congrArg some (by kernel_rfl))
  f240 := Tryz.func52.trans (congrArg some (by kernel_rfl))
  f241 := Tryz.func124.trans (congrArg some (by kernel_rfl))
  f260 := Tryz.func126.trans (congrArg some (by kernel_rfl))
  f266 := Tryz.func81.trans (congrArg some (by kernel_rfl))
  f267 := Tryz.func168.trans (congrArg some (by kernel_rfl))
  f276 := Tryz.func82.trans (congrArg some (by kernel_rfl))
  f277 := Tryz.func165.trans (congrArg some (by kernel_rfl))
  f314 := Tryz.func195.trans (congrArg some (by kernel_rfl))
  t0 := Tryz.underlying0
  a0 := Tryz.isAgg0
  z0 := Tryz.sizeOf0
  v0 := Tryz.zeroValue0
  t3 := Tryz.underlying3
  a3 := Tryz.isAgg3
  z3 := Tryz.sizeOf3
  v3 := Tryz.zeroValue3
  t4 := Tryz.underlying4
  a4 := Tryz.isAgg4
  z4 := Tryz.sizeOf4
  v4 := Tryz.zeroValue4
  t5 := Tryz.underlying5
  a5 := Tryz.isAgg5
  z5 := Tryz.sizeOf5
  v5 := Tryz.zeroValue5
  t9 := Tryz.underlying9
  a9 := Tryz.isAgg9
  z9 := Tryz.sizeOf9
  v9 := Tryz.zeroValue9
  t20 := Tryz.underlying20
  a20 := Tryz.isAgg20
  z20 := Tryz.sizeOf20
  v20 := Tryz.zeroValue20
  t21 := Tryz.underlying21
  a21 := Tryz.isAgg21
  z21 := Tryz.sizeOf21
  v21 := Tryz.zeroValue21
  t37 := Tryz.underlying22
  a37 := Tryz.isAgg22
  z37 := Tryz.sizeOf22
  v37 := Tryz.zeroValue22
  t46 := Tryz.underlying148
  a46 := Tryz.isAgg148
  z46 := Tryz.sizeOf148
  v46 := Tryz.zeroValue148
  t51 := Tryz.underlying178
  a51 := Tryz.isAgg178
  z51 := Tryz.sizeOf178
  v51 := Tryz.zeroValue178
  t70 := Tryz.underlying77
  a70 := Tryz.isAgg77
  z70 := Tryz.sizeOf77
  v70 := Tryz.zeroValue77
  t72 := Tryz.underlying79
  a72 := Tryz.isAgg79
  z72 := Tryz.sizeOf79
  v72 := Tryz.zeroValue79
  t75 := Tryz.underlying82
  a75 := Tryz.isAgg82
  z75 := Tryz.sizeOf82
  v75 := Tryz.zeroValue82
  t76 := Tryz.underlying83
  a76 := Tryz.isAgg83
  z76 := Tryz.sizeOf83
  v76 := Tryz.zeroValue83
  t105 := Tryz.underlying131
  a105 := Tryz.isAgg131
  z105 := Tryz.sizeOf131
  v105 := Tryz.zeroValue131
  t119 := Tryz.underlying174
  a119 := Tryz.isAgg174
  z119 := Tryz.sizeOf174
  t127 := Tryz.underlying115
  a127 := Tryz.isAgg115
  z127 := Tryz.sizeOf115
  v127 := Tryz.zeroValue115
  t138 := Tryz.underlying176
  a138 := Tryz.isAgg176
  z138 := Tryz.sizeOf176
  v138 := Tryz.zeroValue176
  t139 := Tryz.underlying177
  a139 := Tryz.isAgg177
  z139 := Tryz.sizeOf177
  v139 := Tryz.zeroValue177
  t146 := Tryz.underlying243
  a146 := Tryz.isAgg243
  z146 := Tryz.sizeOf243
  v146 := Tryz.zeroValue243
  t164 := Tryz.underlying133
  a164 := Tryz.isAgg133
  z164 := Tryz.sizeOf133
  v164 := Tryz.zeroValue133
  g1 := by kernel_rfl
  g3 := by kernel_rfl
  g4 := by kernel_rfl }
end Go.Proofs
/- From contracts of the library's functions to entries. -/
namespace Go.Sym
open Go.RowKit
variable [LC]

/-- a call that hands back data and leaves what was there -/
theorem CallsTo.data {P : Program} {f : FuncId} {xs : List AV} {r : AV}
    (h : ∀ (w : World) (G : Gh) (vs : List Value), Mem G [] w → Reps xs G vs → Calls P f vs.toArray w fun e w' => ∃ v, e = .returned v ∧ Rep r G v ∧ Still w w') : CallsTo P f xs [] r [] := by
  intro w G vs hm hr
  refine (h w G vs hm hr).mono ?_
  rintro e w' ⟨v, rfl, hv, hs⟩
  refine ⟨v, G, rfl, ?_, hv⟩
  exact (blocks_self hm).extend (new := []) (Gh.le.refl G) hs (fun _ _ _ h => .inl h) (fun b o v hv => by
    have hc := hm.agree b o v hv
    have hlt := World.block_lt_of_cell? _ _ hc
    rw [World.cell?_of_block (w := w) (hs.block b hlt (fun h => h))]; exact hc) hm.one (fun n bx h => by cases h) (fun n bx h => by cases h) (fun n m bx bx' b h => by cases h)
omit [LC] in
theorem Still.of_below {w w' : World} (h : Below w.heap.size w w') : Still w w' := ⟨h.os, h.tape, h.output, h.size, fun k hk _ => h.block k hk⟩
omit [LC] in
theorem Still.refl (w : World) : Still w w := ⟨rfl, rfl, rfl, Nat.le_refl _, fun _ _ _ => rfl⟩
/-- a call that hands back a slice of its own -/
theorem CallsTo.fresh {P : Program} {f : FuncId} {xs : List AV} {τ : Ty} {l : List τ.den} {E : TypeId}
    (h : ∀ (w : World) (G : Gh) (vs : List Value), Mem G [] w → Reps xs G vs → Calls P f vs.toArray w fun e w' => ∃ ad c us, e = .returned (.slice ad l.length c) ∧ RowAt w' E τ.sz ad l.length c us ∧ Reps (l.flatMap τ.enc) G.data us ∧ (∀ b, blkOf ad = some b → w.heap.size ≤ b) ∧ Still w w') :
    CallsTo P f xs [] (.own 0) [(0, .row τ l E)] := by
  intro w G vs hm hr
  refine (h w G vs hm hr).mono ?_
  rintro e w' ⟨ad, c, us, rfl, hrow, hus, hb, hs⟩
  let G' : Gh := { imm := G.imm, box := fun _ => none, own := fun m => bif Nat.beq m 0 then some (ad, l.length, c) else none }
  have hself : (G'.own 0) = some (ad, l.length, c) := rfl
  have hag : ∀ b o v, G.imm b o = some v → w'.cell? ⟨b, o, none⟩ = some v := fun b o v hv => by
    have hc := hm.agree b o v hv
    have hlt := World.block_lt_of_cell? _ _ hc
    rw [World.cell?_of_block (w := w) (hs.block b hlt (fun h => h))]; exact hc
  have hlt : ∀ b o v, G.imm b o = some v → b < w.heap.size := fun b o v hv => World.block_lt_of_cell? _ _ (hm.agree b o v hv)
  have hlk : ∀ m b, look [(0, Box.row τ l E)] m = some b → m = 0 ∧ b = .row τ l E := fun m b hh => by
    simp only [look] at hh
    cases hb : Nat.beq 0 m
    · rw [hb] at hh; cases hh
    · rw [hb] at hh; simp only [cond_true, Option.some.injEq] at hh; exact ⟨(Nat.eq_of_beq_eq_true hb).symm, hh.symm⟩
  have hat : G'.at 0 (.row τ l E) = blkOf ad := by
    simp only [Gh.at, hself]; cases ad <;> rfl
  refine ⟨.slice ad l.length c, G', rfl, ⟨⟨hag, hm.one, fun m b hh => ?_, fun m m' b b' c' h1 h2 _ _ => ?_, LC.mono (fun _ _ _ h => h) (fun b o v h => hs.block b (hlt b o v h) fun h => h) hm.tab⟩, ⟨hs.os, hs.tape, hs.output, hs.size, fun k hk _ => hs.block k hk fun h => h⟩, fun _ _ _ h => h, fun _ _ _ h => .inl h, fun m b c' h1 h2 => ?_, fun _ _ _ h => (by cases h), fun _ _ _ h => (by cases h)⟩, ad, l.length, c, hself, rfl⟩
  · obtain ⟨rfl, rfl⟩ := hlk m b hh
    refine BoxOk.row hself hrow (Reps.data_le (fun _ _ _ h => h) hus) fun b hb' o => ?_
    cases hq : G.imm b o with
    | none => rfl
    | some v => have := hlt b o v hq; have := hb b hb'; omega
  · obtain ⟨rfl, _⟩ := hlk m b h1
    obtain ⟨rfl, _⟩ := hlk m' b' h2
    rfl
  · obtain ⟨rfl, rfl⟩ := hlk m b h1
    rw [hat] at h2
    exact .inl (hb c' h2)
/-- the cells of a slice of data, in whatever world that keeps what was there -/
theorem sl_src {P : Program} {G : Gh} {w : World} (hm : Mem G [] w) {τ : Ty} {l : List τ.den} {v : Value} (h : Rep (.sl τ l) G v) :
    ∃ news, (∀ w, (Builtin.lenOf v).run P w = .ok l.length w) ∧ (∀ w', (∀ k, k < w.heap.size → w'.heap[k]? = w.heap[k]?) → (Builtin.firstCells τ.sz l.length v).run P w' = .ok news.toArray w') ∧ Reps (l.flatMap τ.enc) G.data news ∧ ∀ u ∈ news, u.oneCell' = true := by
  let s : St := { n := 0, fr := [], hp := [], nx := 0, df := [] }
  have hr : Rel w G.data [] G.data s { tmps := #[], defers := [] } w :=
    ⟨⟨[], rfl, rfl⟩, rfl, fun i x h => (by cases h), fun _ _ _ => ⟨rfl, rfl⟩, blocks_self ⟨hm.agree, hm.one, fun _ _ h => (by cases h), fun _ _ _ _ _ h => (by cases h), hm.tab⟩⟩
  rcases src_ok hr (x := .sl τ l) (v := v) (flat := l.flatMap τ.enc) (n := l.length) h rfl with ⟨b, hb, _⟩ | ⟨ad, c, us, rfl, h1, h2, h3⟩
  · cases hb
  · refine ⟨us, fun w => by simp [Builtin.lenOf], fun w' hw' => ?_, h1, h2⟩
    have hul : us.length = l.length * τ.sz := by rw [← h1.length, flat_len]
    cases ad with
    | none =>
      have : us = [] := by
        rcases h3 with h3 | ⟨_, _, h3, _⟩
        · exact h3
        · cases h3
      subst this
      simp [Builtin.firstCells]
    | some ad =>
      have h3' : us = [] ∨ ∃ b o, some ad = some (⟨b, o, none⟩ : Addr) ∧ ∀ j u, us[j]? = some u → w'.cell? ⟨b, o + j, none⟩ = some u := by
        rcases h3 with h3 | ⟨b, o, h4, h5⟩
        · exact .inl h3
        · refine .inr ⟨b, o, h4, fun j u hu => ?_⟩
          have hc := h5 j u hu
          rw [World.cell?_of_block (w := w) (hw' _ (World.block_lt_of_cell? _ _ hc))]; exact hc
      have := run_loadCells0 (P := P) (w := w') (ad := ad) h3'
      rw [hul] at this
      simp [Builtin.firstCells, this]
omit [LC] in
theorem wpList_append_row {P : Program} {ops : Array Oper} {rest : List Oper} {o : Oper} {a : Act} {w : World} {Q : Exit → Act → World → Prop} (hgd : o.guard = none) (s x : Operand) (t : TypeId)
    (ho : o.op = .call { callee := .builtin .append, args := #[s, x], argTypes := #[t, t] }) {E : TypeId} {sz : Nat} (ht : P.underlying t = some (.slice E)) (hz : zeroFine P E = true) (hsz : tSize P E = some sz) (ht2 : notInt P t = true)
    {ad : Option Addr} {n c : Nat} {us : List Value} (hs : a.eval s = .slice ad n c) (hrow : RowAt w E sz ad n c us) {v : Value} (hx : a.eval x = v) {m : Nat} {news : List Value}
    (hlen : ∀ w, (Builtin.lenOf v).run P w = .ok m w) (hcells : ∀ w', w'.heap = w.heap → (Builtin.firstCells sz m v).run P w' = .ok news.toArray w') (hnl : news.length = m * sz) (hn1 : ∀ v ∈ news, v.oneCell' = true) (hmax : n + m ≤ rowMax)
    (h : ∀ ad' c' w', RowAt w' E sz ad' (n + m) c' (us ++ news) → (blkOf ad' = blkOf ad ∨ ∃ g, blkOf ad' = some g ∧ w.heap.size ≤ g) → Bel (fun b => blkOf ad = some b) w w' → wpList P ops Q rest (a.put o.dst (.slice ad' (n + m) c')) w') : wpList P ops Q (o :: rest) a w := by
  obtain ⟨i, z, hi, hz', z1, z2, z3, z4, zs⟩ := zeroFine_ok hz hsz
  rw [← zs] at hrow hcells hnl h
  refine wpList_plain hgd fun _ hK => ?_
  obtain ⟨ad', c', w', r1, r2, r3, r4⟩ := run_append' (ty := o.type) ht hi hz' z1 z2 z3 z4 ht2 hrow hlen hcells hnl hn1 hmax
  unfold Oper.wp execOp
  simp only [ho, resolve, invoke, builtin, Sem.run_bind, Sem.run_pure, Result.andThen_ok, List.map_toArray, List.map_cons, List.map_nil, hs, hx, r1]
  exact hK _ _ (h ad' c' w' r2 r3 r4)
end Go.Sym
/- Entries of the library's functions, out of the kit's contracts. -/
namespace Go.Sym
open Go.Proofs Go.RowKit Go.Sort
variable [LC]
omit [LC] in
theorem Still.below {w w' : World} (h : Still w w') : Below w.heap.size w w' := ⟨h.os, h.tape, h.output, h.size, fun k hk => h.block k hk (fun h => h)⟩
theorem Mem.still {G : Gh} {w w' : World} (hm : Mem G [] w) (hs : Still w w') : Mem G [] w' :=
  have hlt : ∀ b o v, G.imm b o = some v → w'.heap[b]? = w.heap[b]? := fun b o v hv => hs.block b (World.block_lt_of_cell? _ _ (hm.agree b o v hv)) (fun h => h)
  ⟨fun b o v hv => by rw [World.cell?_of_block (w := w) (hlt b o v hv)]; exact hm.agree b o v hv, hm.one, fun n bx h => (by cases h), fun n m bx bx' b h => (by cases h), LC.mono (fun _ _ _ h => h) hlt hm.tab⟩
/-- the table of the powers of 10 -/
theorem powTab {G : Gh} {w : World} (hm : Mem G [] w) (hg : LC.glob 5 = some ⟨.int .u64, Lib.pow10Tab⟩) (hs : (5, 20) ∈ LC.sizes) : ∃ t fr, w.heap[5]? = some (.cells (Lib.pow10Tab.map fun z => Value.int .u64 z).toArray t fr) := by
  obtain ⟨_, cs, t, fr, hh, hz⟩ := hm.tab.2.2.2 _ hs
  refine ⟨t, fr, hh.trans ?_⟩
  congr 2
  apply Array.ext
  · rw [hz]; simp [Lib.pow10Tab]
  · intro j h1 h2
    have hj : j < Lib.pow10Tab.length := by simpa using h2
    have h3 := hm.agree _ _ _ (hm.tab.1 _ _ _ hg j _ (List.getElem?_eq_getElem hj))
    rw [show j * (Ty.int .u64).sz = j from Nat.mul_one j] at h3
    simp only [World.cell?, hh] at h3
    rw [Array.getElem?_eq_getElem h1] at h3
    simp only [List.getElem_toArray, List.getElem_map]
    exact Option.some.inj h3
theorem itoa_calls {G : Gh} {w : World} (hm : Mem G [] w) (hg : LC.glob 5 = some ⟨.int .u64, Lib.pow10Tab⟩) (hs : (5, 20) ∈ LC.sizes) (n : Int) (h0 : -9223372036854775808 ≤ n) (h1 : n ≤ 9223372036854775807) :
    Calls Tryz.prog 161 #[.int .i64 n] w fun e w' => e = .returned (.string ⟨(Lib.itoa n).toArray⟩) ∧ Still w w' :=
  (Any.strconv_Itoa Tryz.laysM171 n h0 h1 w (by
    unfold Lib.TabIs World.var?
    obtain ⟨t, fr, hh⟩ := powTab hm hg hs
    rw [show Tryz.prog.globalNamed _ = some 5 by kernel_rfl, Option.bind_some, hh])).mono fun e w' ⟨he, k, os, hw⟩ => ⟨he, by
      subst hw
      refine ⟨rfl, rfl, rfl, by simp [grow], fun j hj _ => ?_⟩
      show (w.heap ++ os)[j]? = _
      rw [Array.getElem?_append_left hj]⟩
def itoaI : IF := ⟨.fn 161, [.h (.int .i64)], [], _, RS.mk (.h .str) []⟩
theorem itoa_ok (hg : LC.glob 5 = some ⟨.int .u64, Lib.pow10Tab⟩) (hs : (5, 20) ∈ LC.sizes) : (itoaI.e F_strconv_Itoa).Sound Tryz.prog := fun d d' r h => by
  have h : F_strconv_Itoa d.1 = some r := h
  unfold F_strconv_Itoa at h
  cases hd : decide (-9223372036854775808 ≤ (show Int from d.1) ∧ (show Int from d.1) ≤ 9223372036854775807) <;> rw [hd] at h <;> simp only [cond_true, cond_false, reduceCtorEq] at h
  have h := Option.some.inj h
  subst h
  have hd := of_decide_eq_true hd
  refine ⟨Tryz.call161, CallsTo.data fun w G vs hm hr => ?_⟩
  match vs, hr with
  | [v], ⟨h1, _⟩ =>
    have h1 : v = .int .i64 d.1 := h1
    subst h1
    exact (itoa_calls hm hg hs _ hd.1 hd.2).mono fun e w' ⟨he, hw⟩ => ⟨_, he, rfl, hw⟩
theorem index_calls {G : Gh} {w : World} (hm : Mem G [] w) (hi : 2 ∈ LC.ints) {a b : Bs} {u v : Value} (hu : Rep (.sl .byte a) G u) (hv : Rep (.sl .byte b) G v) (h2 : 2 ≤ b.length) (hb : b.length ≤ maxLen) (ha : a.length < 4294967281) :
    Calls Tryz.prog 164 #[u, v] w fun e w' => e = .returned (.int .i64 (Lib.index a b)) ∧ Still w w' := by
  obtain ⟨p, c, rfl, hc, hp⟩ : SlAt 1 (Ty.byte.At G.imm) a u := hu
  obtain ⟨q, d, rfl, hd, hq⟩ : SlAt 1 (Ty.byte.At G.imm) b v := hv
  by_cases hlt : a.length < b.length
  · have h := Any.bytes_Index_longer Tryz.lays185 p q a.length c b.length d w h2 hlt (by unfold maxLen at hb; omega)
    rw [Lib.index_past (i := 0) (by intro e; subst e; simp at h2) (fun j hj => absurd hj (Nat.not_lt_zero _)) (by simpa using hlt)]
    exact h.mono fun e w' ⟨he, hw⟩ => ⟨he, by subst hw; exact Still.refl _⟩
  · rcases hp with rfl | ⟨g, o, rfl, hcells⟩
    · exact absurd (show ([] : Bs).length < b.length from by show 0 < _; omega) hlt
    rcases hq with rfl | ⟨g', o', rfl, hcells'⟩
    · exact absurd h2 (by show ¬ 2 ≤ 0; omega)
    obtain ⟨k, hk⟩ := hm.tab.2.1 _ hi
    have hk := hm.agree _ _ _ hk
    have bb : ∀ l : Bs, Lib.bytesOf (l.map fun x => (x.toNat : Int)) = l := fun l => by
      unfold Lib.bytesOf
      rw [List.map_map]
      have : ((fun n : Int => UInt8.ofNat n.toNat) ∘ fun x : UInt8 => (x.toNat : Int)) = id := by funext x; simp
      rw [this, List.map_id]
    have cl : ∀ (l : Bs) (g o : Nat), (∀ (j : Nat) (x : UInt8), l[j]? = some x → Ty.byte.At G.imm x g (o + j * 1)) → ∀ i, i < l.length → w.cell? ((⟨g, o, none⟩ : Addr).add i) = some (.int .u8 ((l.map fun x => (x.toNat : Int)).getD i 0)) := fun l g o h i hi => by
      have h1 : G.imm g (o + i * 1) = some (.int .u8 l[i].toNat) := h i _ (List.getElem?_eq_getElem hi)
      have h1 := hm.agree _ _ _ h1
      rw [Nat.mul_one] at h1
      rw [Lib.add_plain', h1]
      simp [List.getD_eq_getElem?_getD, hi]
    have rg : ∀ l : Bs, ∀ x ∈ l.map (fun x => (x.toNat : Int)), 0 ≤ x ∧ x < 256 := fun l x hx => by
      obtain ⟨c, _, rfl⟩ := List.mem_map.1 hx
      have := c.toNat_lt; omega
    have h := Any.bytes_Index_at Tryz.lays185 ⟨g, o, none⟩ ⟨g', o', none⟩ a.length c b.length d (a.map fun x => (x.toNat : Int)) (b.map fun x => (x.toNat : Int)) k w (by simp) (by simp) (rg a) (rg b) (cl a g o hcells) (cl b g' o' hcells') hc ha (by unfold maxLen at hb; omega) hk
    rw [bb, bb] at h
    exact h.mono fun e w' ⟨he, n, hw⟩ => ⟨he, by subst hw; exact ⟨rfl, rfl, rfl, Nat.le_refl _, fun _ _ _ => rfl⟩⟩
def bindexI : IF := ⟨.fn 164, [.h (.list .byte), .h (.list .byte)], [], _, RS.mk (.h (.int .i64)) []⟩
theorem bindex_ok (hi : 2 ∈ LC.ints) : (bindexI.e F_bytes_Index).Sound Tryz.prog := fun d d' r h => by
  obtain ⟨a, b, _⟩ := d
  have h : F_bytes_Index a b = some r := h
  unfold F_bytes_Index at h
  cases hd : decide (2 ≤ List.length (α := UInt8) b ∧ List.length (α := UInt8) a < 4294967281 ∧ List.length (α := UInt8) b ≤ maxLen) <;> rw [hd] at h <;> simp only [cond_true, cond_false, reduceCtorEq] at h
  have h := Option.some.inj h
  subst h
  have hd := of_decide_eq_true hd
  refine ⟨Tryz.call164, CallsTo.data fun w G vs hm hr => ?_⟩
  match vs, hr with
  | [u, v], ⟨h1, h2, _⟩ =>
    exact (index_calls hm hi h1 h2 hd.1 hd.2.2 hd.2.1).mono fun e w' ⟨he, hw⟩ => ⟨_, he, rfl, hw⟩
end Go.Sym
/- slices.Clone. -/
namespace Go.Sym
open Go.Proofs Go.RowKit
variable [LC]
omit [LC] in
theorem heap_alloc_lt (w : World) (o : Obj) {k : Nat} (hk : k < w.heap.size) : (w.alloc o).heap[k]? = w.heap[k]? := by
  show (w.heap.push _)[k]? = _
  rw [Array.getElem?_push_lt hk]; exact (Array.getElem?_eq_getElem hk).symm
omit [LC] in
theorem rowAt_empty (w : World) (E : TypeId) (sz : Nat) : RowAt (w.alloc (.cells #[] E)) E sz (some ⟨w.heap.size, 0, none⟩) 0 0 [] :=
  ⟨by simp, .inr ⟨w.heap.size, #[], (0, 0), rfl, by show (w.heap.push _)[w.heap.size]? = _; simp, .inl rfl, Nat.le_refl _, by unfold maxLen; omega, by simp, by simp, by simp⟩⟩
end Go.Sym
/- strings.ReplaceAll, out of the kit's contracts. -/
namespace Go.Sym
open Go.Proofs Go.RowKit
variable [LC]
omit [LC] in
theorem bextra155 : Builder.Extra Tryz.prog Tryz.lays155_ren := {
  sizeBuilder := by kernel_rfl
  liesBuilder := by kernel_rfl
  t5 := Tryz.lays155.t5
  a5 := Tryz.lays155.a5
  z5 := Tryz.lays155.z5
  v5 := Tryz.lays155.v5
  infoByte := by kernel_rfl
  cellsByte := by kernel_rfl
  sizeByte := by kernel_rfl
  neB5 := by decide }
theorem replAll_calls {G : Gh} {w : World} (hm : Mem G [] w) (hi : 2 ∈ LC.ints) (s o n : Bs) (d1 : 1 ≤ o.length) (d2 : s.length < 4294967281) (d3 : s.length + s.length * n.length ≤ 140737488355328) :
    Calls Tryz.prog 29 #[.string ⟨s.toArray⟩, .string ⟨o.toArray⟩, .string ⟨n.toArray⟩] w fun e w' => e = .returned (.string ⟨(Lib.replaceAll s o n).toArray⟩) ∧ Still w w' := by
  obtain ⟨k, hk⟩ := hm.tab.2.1 _ hi
  have hk := hm.agree _ _ _ hk
  have hc : Lib.countB ⟨s.toArray⟩ ⟨o.toArray⟩ ≤ s.length := by
    have := Lib.countB_mul_le (⟨o.toArray⟩ : ByteArray) (by rw [size_mk]; exact d1) _ (⟨s.toArray⟩ : ByteArray) (Nat.le_refl _)
    rw [size_mk, size_mk] at this
    exact Nat.le_trans (Nat.le_mul_of_pos_right _ d1) this
  exact (Any.strings_ReplaceAll Tryz.lays155 bextra155 ⟨s.toArray⟩ ⟨o.toArray⟩ ⟨n.toArray⟩ k w (by rw [size_mk]; exact d2) hk (by rw [size_mk]; exact d1) (by
    rw [size_mk, size_mk]; exact Nat.le_trans (Nat.add_le_add_left (Nat.mul_le_mul_right _ hc) _) d3)).mono fun e w' ⟨he, hw⟩ => ⟨he, Still.of_below hw⟩
def replAllI : IF := ⟨.fn 29, [.h .str, .h .str, .h .str], [], _, RS.mk (.h .str) []⟩
theorem replAll_ok (hi : 2 ∈ LC.ints) : (replAllI.e F_strings_ReplaceAll).Sound Tryz.prog := fun d d' r h => by
  obtain ⟨s, o, n, _⟩ := d
  have h : F_strings_ReplaceAll s o n = some r := h
  unfold F_strings_ReplaceAll at h
  cases hd : decide (1 ≤ List.length (α := UInt8) o ∧ List.length (α := UInt8) s < 4294967281 ∧ List.length (α := UInt8) s + List.length (α := UInt8) s * List.length (α := UInt8) n ≤ 140737488355328) <;> rw [hd] at h <;> simp only [cond_true, cond_false, reduceCtorEq] at h
  have h := Option.some.inj h
  subst h
  obtain ⟨d1, d2, d3⟩ := of_decide_eq_true hd
  refine ⟨Tryz.call29, CallsTo.data fun w G vs hm hr => ?_⟩
  match vs, hr with
  | [u, v, x], ⟨h1, h2, h3, _⟩ =>
    have h1 : u = .string ⟨s.toArray⟩ := h1
    have h2 : v = .string ⟨o.toArray⟩ := h2
    have h3 : x = .string ⟨n.toArray⟩ := h3
    subst h1 h2 h3
    exact (replAll_calls hm hi s o n d1 d2 d3).mono fun e w' ⟨he, hw⟩ => ⟨_, he, rfl, hw⟩
end Go.Sym
