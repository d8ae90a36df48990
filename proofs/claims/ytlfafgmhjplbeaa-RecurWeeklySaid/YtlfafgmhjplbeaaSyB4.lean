/- What the claim rests on, part 4: gathered texts. -/
import Derived.Shelf.Sort.Plain
import Derived.Shelf.Slices.In.SortNone
import Derived.Shelf.Slices.CompactI
import Derived.Ground.Names2Prog
import Derived.Test.YtlfafgmhjplbeaaProg
import Derived.Test.YtlfafgmhjplbeaaRows
import Derived.Test.YtlfafgmhjplbeaaSyB3
/- Plain functions that the Go functions compute: printed by a program out of the translation. -/
namespace Go.Sym
set_option linter.unusedVariables false
/- posthouse/posthouselaw2.spring -/
abbrev R_W2_spring : Type := ((List UInt8) × Int × Int × (Int × Int × Int × Int) × Int × Int × Int × Int)
def F_W2_spring : Option R_W2_spring :=
  some (([122] : List UInt8), ((60 : Int), ((120 : Int), (((3 : Int), ((5 : Int), ((0 : Int), (120 : Int)))), ((10 : Int), ((5 : Int), ((0 : Int), (180 : Int))))))))
/- posthouse/basic.Letter -/
def F_basic_Letter (p0 : UInt8) : Option Bool :=
  bif decide ((97 : UInt8) ≤ p0) then
    bif decide (p0 ≤ (122 : UInt8)) then
      some true
    else
      bif decide ((65 : UInt8) ≤ p0) then
        bif decide (p0 ≤ (90 : UInt8)) then
          some true
        else
          bif decide ((48 : UInt8) ≤ p0) then
            some (decide (p0 ≤ (57 : UInt8)))
          else
            some false
      else
        bif decide ((48 : UInt8) ≤ p0) then
          some (decide (p0 ≤ (57 : UInt8)))
        else
          some false
  else
    bif decide ((65 : UInt8) ≤ p0) then
      bif decide (p0 ≤ (90 : UInt8)) then
        some true
      else
        bif decide ((48 : UInt8) ≤ p0) then
          some (decide (p0 ≤ (57 : UInt8)))
        else
          some false
    else
      bif decide ((48 : UInt8) ≤ p0) then
        some (decide (p0 ≤ (57 : UInt8)))
      else
        some false
/- posthouse/basic.Name$1 -/
def F_basic_Name_1 (p0 : UInt8) : Option Bool :=
  (F_basic_Letter p0).bind fun x1 =>
  bif x1 then
    some true
  else
    bif p0 == (45 : UInt8) then
      some true
    else
      bif p0 == (95 : UInt8) then
        some true
      else
        some (p0 == (46 : UInt8))
/- posthouse/basic.All -/
def F_basic_All_b0 (fu : Nat) (r0 : (List UInt8) → Int → Int → Option Bool) (s0 : List UInt8) (s7 : Int) (s8 : Int) : Option Bool :=
  bif decide (s8 < s7) then
    (idx s0 s8).bind fun c1 =>
    (F_basic_Name_1 c1).bind fun x2 =>
    bif !x2 then
      some false
    else
      r0 s0 s7 (w64 (s8 + (1 : Int)))
  else
    some true
def F_basic_All_p0 (fu : Nat) : Nat → (List UInt8) → Int → Int → Option Bool
  | 0, _, _, _ => none
  | n + 1, s0, s7, s8 => F_basic_All_b0 fu (F_basic_All_p0 fu n) s0 s7 s8
def F_basic_All (fu : Nat) (p0 : List UInt8) : Option Bool :=
  F_basic_All_p0 fu fu p0 (List.length p0 : Int) (0 : Int)
/- posthouse/basic.Name -/
def F_basic_Name (fu : Nat) (p0 : List UInt8) : Option Bool :=
  bif !(p0 == ([] : List UInt8)) then
    bif decide ((List.length p0 : Int) ≤ (60 : Int)) then
      (F_basic_All fu p0).bind fun x1 =>
      some x1
    else
      some false
  else
    some false
/- posthouse/basic.Fault -/
def F_basic_Fault (p0 : Int) (p1 : Int) : Option ((Int × Int)) :=
  some (p0, p1)
/- posthouse/zones.within -/
def F_zones_within (p0 : Int) (p1 : Int) (p2 : Int) : Option Bool :=
  bif decide (p1 ≤ p0) then
    some (decide (p0 ≤ p2))
  else
    some false
/- posthouse/zones.fixed -/
def F_zones_fixed (p0 : (List UInt8) × Int × Int × (Int × Int × Int × Int) × Int × Int × Int × Int) : Option Bool :=
  some ((p0.2.2.2.1.1 == (0 : Int)) && ((p0.2.2.2.1.2.1 == (0 : Int)) && ((p0.2.2.2.1.2.2.1 == (0 : Int)) && ((p0.2.2.2.1.2.2.2 == (0 : Int)) && true))))
/- posthouse/zones.turn -/
def F_zones_turn (p0 : Int × Int × Int × Int) : Option Bool :=
  (F_zones_within p0.1 (1 : Int) (12 : Int)).bind fun x1 =>
  bif x1 then
    (F_zones_within p0.2.1 (1 : Int) (5 : Int)).bind fun x2 =>
    bif x2 then
      (F_zones_within p0.2.2.1 (0 : Int) (6 : Int)).bind fun x3 =>
      bif x3 then
        (F_zones_within p0.2.2.2 (0 : Int) (1439 : Int)).bind fun x4 =>
        some x4
      else
        some false
    else
      some false
  else
    some false
/- posthouse/basic.None -/
def F_basic_None : Option ((Int × Int)) :=
  some ((0 : Int), (0 : Int))
/- posthouse/zones.Validate -/
def F_zones_Validate_p2 (fu : Nat) (m16 : Int × Int) : Option ((Int × Int)) :=
  (F_basic_None).bind fun x1 =>
  some x1
def F_zones_Validate_p0 (fu : Nat) (s23 : Bool) (m16 : Int × Int) : Option ((Int × Int)) :=
  bif s23 then
    (F_basic_Fault (5 : Int) (-5 : Int)).bind fun x1 =>
    some x1
  else
    F_zones_Validate_p2 fu m16
def F_zones_Validate_p1 (fu : Nat) (s26 : Bool) (m16 : (List UInt8) × Int × Int × (Int × Int × Int × Int) × Int × Int × Int × Int) (m17 : Int × Int) : Option ((Int × Int)) :=
  bif s26 then
    (F_basic_Fault (3 : Int) (-5 : Int)).bind fun x1 =>
    some x1
  else
    (F_zones_turn m16.2.2.2.1).bind fun x2 =>
    bif !x2 then
      (F_basic_Fault (3 : Int) (-6 : Int)).bind fun x3 =>
      some x3
    else
      (F_zones_turn m16.2.2.2.2).bind fun x4 =>
      bif !x4 then
        (F_basic_Fault (3 : Int) (-7 : Int)).bind fun x5 =>
        some x5
      else
        bif m16.2.2.2.1.1 == m16.2.2.2.2.1 then
          (F_basic_Fault (5 : Int) (-7 : Int)).bind fun x6 =>
          some x6
        else
          (F_basic_None).bind fun x7 =>
          some x7
def F_zones_Validate (fu : Nat) (p0 : (List UInt8) × Int × Int × (Int × Int × Int × Int) × Int × Int × Int × Int) : Option ((Int × Int)) :=
  (F_basic_Name fu p0.1).bind fun x1 =>
  bif !x1 then
    (F_basic_Fault (10 : Int) (-3 : Int)).bind fun x2 =>
    some x2
  else
    (F_zones_within p0.2.1 (-900 : Int) (900 : Int)).bind fun x3 =>
    bif !x3 then
      (F_basic_Fault (3 : Int) (-4 : Int)).bind fun x4 =>
      some x4
    else
      (F_zones_fixed p0).bind fun x5 =>
      bif x5 then
        bif p0.2.2.1 != (0 : Int) then
          F_zones_Validate_p0 fu true ((0 : Int), (0 : Int))
        else
          F_zones_Validate_p0 fu (!((p0.2.2.2.2.1 == (0 : Int)) && ((p0.2.2.2.2.2.1 == (0 : Int)) && ((p0.2.2.2.2.2.2.1 == (0 : Int)) && ((p0.2.2.2.2.2.2.2 == (0 : Int)) && true))))) ((0 : Int), (0 : Int))
      else
        (F_zones_within p0.2.2.1 (-900 : Int) (900 : Int)).bind fun x6 =>
        bif !x6 then
          F_zones_Validate_p1 fu true p0 ((0 : Int), (0 : Int))
        else
          (F_zones_within p0.2.2.1 (w64 (p0.2.1 + (1 : Int))) (w64 (p0.2.1 + (180 : Int)))).bind fun x7 =>
          F_zones_Validate_p1 fu (!x7) p0 ((0 : Int), (0 : Int))
/- posthouse/basic.Failed -/
def F_basic_Failed (p0 : Int × Int) : Option Bool :=
  some (p0.1 != (0 : Int))
/- posthouse/basic.Time -/
def F_basic_Time (p0 : Int) : Option Bool :=
  bif decide ((-68719476736 : Int) ≤ p0) then
    some (decide (p0 ≤ (68719476736 : Int)))
  else
    some false
/- posthouse/dates.within -/
def F_dates_within (p0 : Int) (p1 : Int) (p2 : Int) : Option Bool :=
  bif decide (p1 ≤ p0) then
    some (decide (p0 ≤ p2))
  else
    some false
/- posthouse/dates.split -/
def F_dates_split (p0 : Int) (p1 : Int) : Option (Int × Int) :=
  bif decide (p1 ≠ 0) then
  bif decide (p1 ≠ 0) then
  bif decide (p1 ≠ 0) then
  some (w64 (Int.tdiv (w64 (p0 - (Int.tmod (w64 ((Int.tmod p0 p1) + p1)) p1))) p1), Int.tmod (w64 ((Int.tmod p0 p1) + p1)) p1)
  else none
  else none
  else none
/- posthouse/dates.before -/
def F_dates_before (p0 : Int) : Option Int :=
  some (w64 ((w64 ((w64 ((w64 ((365 : Int) * (w64 (p0 - (1 : Int))))) + (w64 (Int.tdiv (w64 (p0 - (1 : Int))) (4 : Int))))) - (w64 (Int.tdiv (w64 (p0 - (1 : Int))) (100 : Int))))) + (w64 (Int.tdiv (w64 (p0 - (1 : Int))) (400 : Int)))))
/- posthouse/dates.leap -/
def F_dates_leap (p0 : Int) : Option Bool :=
  bif (Int.tmod p0 (4 : Int)) == (0 : Int) then
    bif (Int.tmod p0 (100 : Int)) != (0 : Int) then
      some true
    else
      some ((Int.tmod p0 (400 : Int)) == (0 : Int))
  else
    some false
/- posthouse/dates.length -/
def F_dates_length (p0 : Int) (p1 : Int) : Option Int :=
  (idx ([(31 : Int), (28 : Int), (31 : Int), (30 : Int), (31 : Int), (30 : Int), (31 : Int), (31 : Int), (30 : Int), (31 : Int), (30 : Int), (31 : Int)] : List Int) (w64 (p1 - (1 : Int)))).bind fun y1 =>
  bif p1 == (2 : Int) then
    (F_dates_leap p0).bind fun x2 =>
    bif x2 then
      some (w64 (y1 + (1 : Int)))
    else
      some y1
  else
    some y1
/- posthouse/dates.day -/
def F_dates_day_b0 (fu : Nat) (r0 : Int → Int → Int → Int → Option Int) (s0 : Int) (s1 : Int) (s7 : Int) (s8 : Int) : Option Int :=
  bif decide (s8 < s1) then
    (F_dates_length s0 s8).bind fun x1 =>
    r0 s0 s1 (w64 (s7 + x1)) (w64 (s8 + (1 : Int)))
  else
    some s7
def F_dates_day_p0 (fu : Nat) : Nat → Int → Int → Int → Int → Option Int
  | 0, _, _, _, _ => none
  | n + 1, s0, s1, s7, s8 => F_dates_day_b0 fu (F_dates_day_p0 fu n) s0 s1 s7 s8
def F_dates_day (fu : Nat) (p0 : Int) (p1 : Int) (p2 : Int) : Option Int :=
  (F_dates_before p0).bind fun x1 =>
  (F_dates_before (1970 : Int)).bind fun x2 =>
  F_dates_day_p0 fu fu p0 p1 (w64 ((w64 ((w64 (x1 - x2)) + p2)) - (1 : Int))) (1 : Int)
/- posthouse/dates.Civil -/
abbrev R_dates_Civil : Type := (Int × Int × Int × Int × Int × Int × Int) × (Int × Int)
def F_dates_Civil_p4 (fu : Nat) (r2 : Int → Int → Int → Int → Int → (Int × Int × Int × Int × Int × Int × Int) → (Int × Int) → Option R_dates_Civil) (s1 : Int) (s6 : Int) (s7 : Int) (s8 : Int) (s9 : Int) (m16 : Int × Int × Int × Int × Int × Int × Int) (m17 : Int × Int) : Option R_dates_Civil :=
  r2 s1 s6 s7 s8 (w64 (Int.tdiv s9 (2 : Int))) m16 m17
def F_dates_Civil_p3 (fu : Nat) (r2 : Int → Int → Int → Int → Int → (Int × Int × Int × Int × Int × Int × Int) → (Int × Int) → Option R_dates_Civil) (s1 : Int) (s6 : Int) (s7 : Int) (s8 : Int) (s9 : Int) (s54 : Bool) (m16 : Int × Int × Int × Int × Int × Int × Int) (m17 : Int × Int) : Option R_dates_Civil :=
  bif s54 then
    F_dates_Civil_p4 fu r2 s1 s6 s7 (w64 (s8 + s9)) s9 m16 m17
  else
    F_dates_Civil_p4 fu r2 s1 s6 s7 s8 s9 m16 m17
def F_dates_Civil_b5 (fu : Nat) (r5 : Int → Int → Int → Int → Int → (Int × Int × Int × Int × Int × Int × Int) → (Int × Int) → Option R_dates_Civil) (s1 : Int) (s6 : Int) (s7 : Int) (s8 : Int) (s10 : Int) (m16 : Int × Int × Int × Int × Int × Int × Int) (m17 : Int × Int) : Option R_dates_Civil :=
  (F_dates_day fu s8 s10 (1 : Int)).bind fun x1 =>
  bif decide (s6 < x1) then
    r5 s1 s6 s7 s8 (w64 (s10 - (1 : Int))) m16 m17
  else
    (F_dates_day fu s8 s10 (1 : Int)).bind fun x2 =>
    (F_basic_None).bind fun x3 =>
    some ((s8, (s10, (w64 ((w64 (s6 - x2)) + (1 : Int)), (w64 (Int.tdiv s7 (3600 : Int)), (Int.tmod (w64 (Int.tdiv s7 (60 : Int))) (60 : Int), (Int.tmod s7 (60 : Int), s1)))))), x3)
def F_dates_Civil_p5 (fu : Nat) : Nat → Int → Int → Int → Int → Int → (Int × Int × Int × Int × Int × Int × Int) → (Int × Int) → Option R_dates_Civil
  | 0, _, _, _, _, _, _, _ => none
  | n + 1, s1, s6, s7, s8, s10, m16, m17 => F_dates_Civil_b5 fu (F_dates_Civil_p5 fu n) s1 s6 s7 s8 s10 m16 m17
def F_dates_Civil_b2 (fu : Nat) (r2 : Int → Int → Int → Int → Int → (Int × Int × Int × Int × Int × Int × Int) → (Int × Int) → Option R_dates_Civil) (s1 : Int) (s6 : Int) (s7 : Int) (s8 : Int) (s9 : Int) (m16 : Int × Int × Int × Int × Int × Int × Int) (m17 : Int × Int) : Option R_dates_Civil :=
  bif decide ((0 : Int) < s9) then
    bif decide ((w64 (s8 + s9)) ≤ (4000 : Int)) then
      (F_dates_day fu (w64 (s8 + s9)) (1 : Int) (1 : Int)).bind fun x1 =>
      F_dates_Civil_p3 fu r2 s1 s6 s7 s8 s9 (decide (x1 ≤ s6)) m16 m17
    else
      F_dates_Civil_p3 fu r2 s1 s6 s7 s8 s9 false m16 m17
  else
    F_dates_Civil_p5 fu fu s1 s6 s7 s8 (12 : Int) m16 m17
def F_dates_Civil_p2 (fu : Nat) : Nat → Int → Int → Int → Int → Int → (Int × Int × Int × Int × Int × Int × Int) → (Int × Int) → Option R_dates_Civil
  | 0, _, _, _, _, _, _, _ => none
  | n + 1, s1, s6, s7, s8, s9, m16, m17 => F_dates_Civil_b2 fu (F_dates_Civil_p2 fu n) s1 s6 s7 s8 s9 m16 m17
def F_dates_Civil_p1 (fu : Nat) (s1 : Int) (s6 : Int) (s7 : Int) (m16 : Int × Int × Int × Int × Int × Int × Int) (m17 : Int × Int) : Option R_dates_Civil :=
  F_dates_Civil_p2 fu fu s1 s6 s7 (1 : Int) (2048 : Int) m16 m17
def F_dates_Civil_p0 (fu : Nat) (s1 : Int) (s6 : Int) (s7 : Int) (s36 : Bool) (m16 : Int × Int × Int × Int × Int × Int × Int) (m17 : Int × Int) : Option R_dates_Civil :=
  bif s36 then
    (F_basic_Fault (3 : Int) (-3 : Int)).bind fun x1 =>
    some (((0 : Int), ((0 : Int), ((0 : Int), ((0 : Int), ((0 : Int), ((0 : Int), (0 : Int))))))), x1)
  else
    F_dates_Civil_p1 fu s1 s6 s7 m16 m17
def F_dates_Civil (fu : Nat) (p0 : Int) (p1 : Int) : Option R_dates_Civil :=
  (F_basic_Time p0).bind fun x1 =>
  bif !x1 then
    (F_basic_Fault (3 : Int) (-2 : Int)).bind fun x2 =>
    some (((0 : Int), ((0 : Int), ((0 : Int), ((0 : Int), ((0 : Int), ((0 : Int), (0 : Int))))))), x2)
  else
    (F_dates_within p1 (-900 : Int) (900 : Int)).bind fun x3 =>
    bif !x3 then
      (F_basic_Fault (3 : Int) (-4 : Int)).bind fun x4 =>
      some (((0 : Int), ((0 : Int), ((0 : Int), ((0 : Int), ((0 : Int), ((0 : Int), (0 : Int))))))), x4)
    else
      (F_dates_split (w64 (p0 + (w64 ((60 : Int) * p1)))) (86400 : Int)).bind fun x5 =>
      (F_dates_day fu (1 : Int) (1 : Int) (1 : Int)).bind fun x6 =>
      bif decide (x5.1 < x6) then
        F_dates_Civil_p0 fu p1 x5.1 x5.2 true ((0 : Int), ((0 : Int), ((0 : Int), ((0 : Int), ((0 : Int), ((0 : Int), (0 : Int))))))) ((0 : Int), (0 : Int))
      else
        (F_dates_day fu (4000 : Int) (12 : Int) (31 : Int)).bind fun x7 =>
        F_dates_Civil_p0 fu p1 x5.1 x5.2 (decide (x7 < x5.1)) ((0 : Int), ((0 : Int), ((0 : Int), ((0 : Int), ((0 : Int), ((0 : Int), (0 : Int))))))) ((0 : Int), (0 : Int))
/- posthouse/dates.Validate -/
def F_dates_Validate (p0 : Int × Int × Int × Int × Int × Int × Int) : Option ((Int × Int)) :=
  (F_dates_within p0.1 (1 : Int) (4000 : Int)).bind fun x1 =>
  bif x1 then
    (F_dates_within p0.2.1 (1 : Int) (12 : Int)).bind fun x2 =>
    bif x2 then
      (F_dates_length p0.1 (if (12 : Int) < if (1 : Int) > p0.2.1 then (1 : Int) else p0.2.1 then (12 : Int) else if (1 : Int) > p0.2.1 then (1 : Int) else p0.2.1)).bind fun x3 =>
      (F_dates_within p0.2.2.1 (1 : Int) x3).bind fun x4 =>
      bif x4 then
        (F_dates_within p0.2.2.2.1 (0 : Int) (23 : Int)).bind fun x5 =>
        bif x5 then
          (F_dates_within p0.2.2.2.2.1 (0 : Int) (59 : Int)).bind fun x6 =>
          bif x6 then
            (F_dates_within p0.2.2.2.2.2.1 (0 : Int) (59 : Int)).bind fun x7 =>
            bif x7 then
              (F_dates_within p0.2.2.2.2.2.2 (-900 : Int) (900 : Int)).bind fun x8 =>
              bif !x8 then
                (F_basic_Fault (3 : Int) (-3 : Int)).bind fun x9 =>
                some x9
              else
                (F_basic_None).bind fun x10 =>
                some x10
            else
              (F_basic_Fault (3 : Int) (-3 : Int)).bind fun x11 =>
              some x11
          else
            (F_basic_Fault (3 : Int) (-3 : Int)).bind fun x12 =>
            some x12
        else
          (F_basic_Fault (3 : Int) (-3 : Int)).bind fun x13 =>
          some x13
      else
        (F_basic_Fault (3 : Int) (-3 : Int)).bind fun x14 =>
        some x14
    else
      (F_basic_Fault (3 : Int) (-3 : Int)).bind fun x15 =>
      some x15
  else
    (F_basic_Fault (3 : Int) (-3 : Int)).bind fun x16 =>
    some x16
/- posthouse/dates.Weekday -/
def F_dates_Weekday (fu : Nat) (p0 : Int × Int × Int × Int × Int × Int × Int) : Option (Int × (Int × Int)) :=
  (F_dates_Validate p0).bind fun x1 =>
  (F_basic_Failed x1).bind fun x2 =>
  bif x2 then
    some ((0 : Int), x1)
  else
    (F_dates_day fu p0.1 p0.2.1 p0.2.2.1).bind fun x3 =>
    (F_dates_split (w64 (x3 + (4 : Int))) (7 : Int)).bind fun x4 =>
    (F_basic_None).bind fun x5 =>
    some (x4.2, x5)
/- posthouse/dates.Instant -/
def F_dates_Instant (fu : Nat) (p0 : Int × Int × Int × Int × Int × Int × Int) : Option (Int × (Int × Int)) :=
  (F_dates_Validate p0).bind fun x1 =>
  (F_basic_Failed x1).bind fun x2 =>
  bif x2 then
    some ((0 : Int), x1)
  else
    (F_dates_day fu p0.1 p0.2.1 p0.2.2.1).bind fun x3 =>
    (F_basic_None).bind fun x4 =>
    some (w64 ((w64 ((w64 ((w64 (x3 * (86400 : Int))) + (w64 (p0.2.2.2.1 * (3600 : Int))))) + (w64 ((w64 (p0.2.2.2.2.1 - p0.2.2.2.2.2.2)) * (60 : Int))))) + p0.2.2.2.2.2.1), x4)
/- posthouse/zones.instant -/
def F_zones_instant_p1 (fu : Nat) (s2 : Int) (m16 : Int × Int × Int × Int) (m17 : Int × Int × Int × Int × Int × Int × Int) : Option Int :=
  (F_dates_Instant fu m17).bind fun x1 =>
  some (w64 (x1.1 + (w64 ((60 : Int) * (w64 (m16.2.2.2 - s2))))))
def F_zones_instant_p0 (fu : Nat) (s2 : Int) (s46 : Bool) (m16 : Int × Int × Int × Int) (m17 : Int × Int × Int × Int × Int × Int × Int) : Option Int :=
  bif s46 then
    F_zones_instant_p1 fu s2 m16 (m17.1, (m17.2.1, (w64 (m17.2.2.1 - (7 : Int)), m17.2.2.2)))
  else
    F_zones_instant_p1 fu s2 m16 m17
def F_zones_instant (fu : Nat) (p0 : Int × Int × Int × Int) (p1 : Int) (p2 : Int) : Option Int :=
  (F_dates_Weekday fu (p1, (p0.1, ((1 : Int), ((0 : Int), ((0 : Int), ((0 : Int), (0 : Int)))))))).bind fun x1 =>
  bif p0.2.1 == (5 : Int) then
    (F_dates_Validate (p1, (p0.1, (w64 ((w64 ((1 : Int) + (Int.tmod (w64 ((w64 (p0.2.2.1 - x1.1)) + (7 : Int))) (7 : Int)))) + (w64 ((7 : Int) * (w64 (p0.2.1 - (1 : Int)))))), ((0 : Int), ((0 : Int), ((0 : Int), (0 : Int)))))))).bind fun x2 =>
    (F_basic_Failed x2).bind fun x3 =>
    F_zones_instant_p0 fu p2 x3 p0 (p1, (p0.1, (w64 ((w64 ((1 : Int) + (Int.tmod (w64 ((w64 (p0.2.2.1 - x1.1)) + (7 : Int))) (7 : Int)))) + (w64 ((7 : Int) * (w64 (p0.2.1 - (1 : Int)))))), ((0 : Int), ((0 : Int), ((0 : Int), (0 : Int)))))))
  else
    F_zones_instant_p0 fu p2 false p0 (p1, (p0.1, (w64 ((w64 ((1 : Int) + (Int.tmod (w64 ((w64 (p0.2.2.1 - x1.1)) + (7 : Int))) (7 : Int)))) + (w64 ((7 : Int) * (w64 (p0.2.1 - (1 : Int)))))), ((0 : Int), ((0 : Int), ((0 : Int), (0 : Int)))))))
/- posthouse/zones.offset -/
def F_zones_offset_p2 (fu : Nat) (r0 : Int → Int → Int → Int → Bool → Int → ((List UInt8) × Int × Int × (Int × Int × Int × Int) × Int × Int × Int × Int) → Option Int) (s1 : Int) (s2 : Int) (s7 : Int) (s8 : Int) (s9 : Bool) (s10 : Int) (m16 : (List UInt8) × Int × Int × (Int × Int × Int × Int) × Int × Int × Int × Int) : Option Int :=
  (F_zones_instant fu m16.2.2.2.2 s10 m16.2.2.1).bind fun x1 =>
  bif decide (x1 ≤ s1) then
    bif !s9 then
      r0 s1 s2 x1 m16.2.1 true (w64 (s10 + (1 : Int))) m16
    else
      bif decide (s7 ≤ x1) then
        r0 s1 s2 x1 m16.2.1 true (w64 (s10 + (1 : Int))) m16
      else
        r0 s1 s2 s7 s8 s9 (w64 (s10 + (1 : Int))) m16
  else
    r0 s1 s2 s7 s8 s9 (w64 (s10 + (1 : Int))) m16
def F_zones_offset_p1 (fu : Nat) (r0 : Int → Int → Int → Int → Bool → Int → ((List UInt8) × Int × Int × (Int × Int × Int × Int) × Int × Int × Int × Int) → Option Int) (s1 : Int) (s2 : Int) (s7 : Int) (s8 : Int) (s9 : Bool) (s10 : Int) (s11 : Int) (s44 : Bool) (m16 : (List UInt8) × Int × Int × (Int × Int × Int × Int) × Int × Int × Int × Int) : Option Int :=
  bif s44 then
    F_zones_offset_p2 fu r0 s1 s2 s11 m16.2.2.1 true s10 m16
  else
    F_zones_offset_p2 fu r0 s1 s2 s7 s8 s9 s10 m16
def F_zones_offset_b0 (fu : Nat) (r0 : Int → Int → Int → Int → Bool → Int → ((List UInt8) × Int × Int × (Int × Int × Int × Int) × Int × Int × Int × Int) → Option Int) (s1 : Int) (s2 : Int) (s7 : Int) (s8 : Int) (s9 : Bool) (s10 : Int) (m16 : (List UInt8) × Int × Int × (Int × Int × Int × Int) × Int × Int × Int × Int) : Option Int :=
  bif decide (s10 ≤ (w64 (s2 + (1 : Int)))) then
    (F_zones_instant fu m16.2.2.2.1 s10 m16.2.1).bind fun x1 =>
    bif decide (x1 ≤ s1) then
      bif !s9 then
        F_zones_offset_p1 fu r0 s1 s2 s7 s8 s9 s10 x1 true m16
      else
        F_zones_offset_p1 fu r0 s1 s2 s7 s8 s9 s10 x1 (decide (s7 < x1)) m16
    else
      F_zones_offset_p1 fu r0 s1 s2 s7 s8 s9 s10 x1 false m16
  else
    some s8
def F_zones_offset_p0 (fu : Nat) : Nat → Int → Int → Int → Int → Bool → Int → ((List UInt8) × Int × Int × (Int × Int × Int × Int) × Int × Int × Int × Int) → Option Int
  | 0, _, _, _, _, _, _, _ => none
  | n + 1, s1, s2, s7, s8, s9, s10, m16 => F_zones_offset_b0 fu (F_zones_offset_p0 fu n) s1 s2 s7 s8 s9 s10 m16
def F_zones_offset (fu : Nat) (p0 : (List UInt8) × Int × Int × (Int × Int × Int × Int) × Int × Int × Int × Int) (p1 : Int) (p2 : Int) : Option Int :=
  (F_zones_fixed p0).bind fun x1 =>
  bif x1 then
    some p0.2.1
  else
    F_zones_offset_p0 fu fu p1 p2 (0 : Int) p0.2.1 false (w64 (p2 - (1 : Int))) p0
/- posthouse/zones.Offset -/
def F_zones_Offset (fu : Nat) (p0 : (List UInt8) × Int × Int × (Int × Int × Int × Int) × Int × Int × Int × Int) (p1 : Int) : Option (Int × (Int × Int)) :=
  (F_zones_Validate fu p0).bind fun x1 =>
  (F_basic_Failed x1).bind fun x2 =>
  bif x2 then
    some ((0 : Int), x1)
  else
    (F_basic_Time p1).bind fun x3 =>
    bif !x3 then
      (F_basic_Fault (3 : Int) (-2 : Int)).bind fun x4 =>
      some ((0 : Int), x4)
    else
      (F_dates_Civil fu p1 p0.2.1).bind fun x5 =>
      (F_basic_Failed x5.2).bind fun x6 =>
      bif x6 then
        (F_basic_Fault (3 : Int) (-8 : Int)).bind fun x7 =>
        some ((0 : Int), x7)
      else
        (F_zones_within x5.1.1 (2 : Int) (3999 : Int)).bind fun x8 =>
        bif !x8 then
          (F_basic_Fault (3 : Int) (-8 : Int)).bind fun x9 =>
          some ((0 : Int), x9)
        else
          (F_zones_offset fu p0 p1 x5.1.1).bind fun x10 =>
          (F_basic_None).bind fun x11 =>
          some (x10, x11)
/- posthouse/zones.Instants -/
def F_zones_Instants_b1 (fu : Nat) (r1 : Int → Int → Int → ((List UInt8) × Int × Int × (Int × Int × Int × Int) × Int × Int × Int × Int) → (Int × Int) → (List Int) → (List Int) → Option ((Int × Int) × (List Int))) (s7 : Int) (s50 : Int) (s51 : Int) (m16 : (List UInt8) × Int × Int × (Int × Int × Int × Int) × Int × Int × Int × Int) (m17 : Int × Int) (m18 : List Int) (m19 : List Int) : Option ((Int × Int) × (List Int)) :=
  bif decide (s51 < s50) then
    bif decide (0 ≤ s51 ∧ s51.toNat < List.length m18) then
    (m18[s51.toNat]?).bind fun y1 =>
    (F_zones_Offset fu m16 (w64 (s7 - (w64 ((60 : Int) * y1))))).bind fun x2 =>
    (F_basic_Failed x2.2).bind fun x3 =>
    bif !x3 then
      bif x2.1 == y1 then
        bif decide (List.length (m19 ++ ([w64 (s7 - (w64 ((60 : Int) * y1)))] : List Int)) ≤ rowMax) then
        r1 s7 s50 (w64 (s51 + (1 : Int))) m16 m17 m18 (m19 ++ ([w64 (s7 - (w64 ((60 : Int) * y1)))] : List Int))
        else none
      else
        r1 s7 s50 (w64 (s51 + (1 : Int))) m16 m17 m18 m19
    else
      r1 s7 s50 (w64 (s51 + (1 : Int))) m16 m17 m18 m19
    else none
  else
    (F_slices_Sort m19).bind fun x4 =>
    (F_basic_None).bind fun x5 =>
    some (x5, x4)
def F_zones_Instants_p1 (fu : Nat) : Nat → Int → Int → Int → ((List UInt8) × Int × Int × (Int × Int × Int × Int) × Int × Int × Int × Int) → (Int × Int) → (List Int) → (List Int) → Option ((Int × Int) × (List Int))
  | 0, _, _, _, _, _, _, _ => none
  | n + 1, s7, s50, s51, m16, m17, m18, m19 => F_zones_Instants_b1 fu (F_zones_Instants_p1 fu n) s7 s50 s51 m16 m17 m18 m19
def F_zones_Instants_p0 (fu : Nat) (s7 : Int) (m16 : (List UInt8) × Int × Int × (Int × Int × Int × Int) × Int × Int × Int × Int) (m17 : Int × Int) (m18 : List Int) : Option ((Int × Int) × (List Int)) :=
  F_zones_Instants_p1 fu fu s7 (List.length m18 : Int) (0 : Int) m16 m17 m18 []
def F_zones_Instants (fu : Nat) (p0 : (List UInt8) × Int × Int × (Int × Int × Int × Int) × Int × Int × Int × Int) (p1 : Int × Int × Int × Int × Int × Int × Int) : Option ((Int × Int) × (List Int)) :=
  (F_zones_Validate fu p0).bind fun x1 =>
  (F_basic_Failed x1).bind fun x2 =>
  bif x2 then
    some (x1, [])
  else
    (F_dates_Instant fu p1).bind fun x3 =>
    (F_basic_Failed x3.2).bind fun x4 =>
    bif x4 then
      some (x3.2, [])
    else
      bif p1.2.2.2.2.2.2 != (0 : Int) then
        (F_basic_Fault (5 : Int) (-9 : Int)).bind fun x5 =>
        some (x5, [])
      else
        (F_zones_within p1.1 (3 : Int) (3998 : Int)).bind fun x6 =>
        bif !x6 then
          (F_basic_Fault (3 : Int) (-9 : Int)).bind fun x7 =>
          some (x7, [])
        else
          (F_zones_fixed p0).bind fun x8 =>
          bif !x8 then
            bif decide (List.length (([p0.2.1] : List Int) ++ ([p0.2.2.1] : List Int)) ≤ rowMax) then
            F_zones_Instants_p0 fu x3.1 p0 ((0 : Int), (0 : Int)) (([p0.2.1] : List Int) ++ ([p0.2.2.1] : List Int))
            else none
          else
            F_zones_Instants_p0 fu x3.1 p0 ((0 : Int), (0 : Int)) ([p0.2.1] : List Int)
/- posthouse/posthouseref1.Ints -/
def F_R1_Ints_b0 (fu : Nat) (r0 : (List Int) → (List Int) → Int → Option Bool) (s0 : List Int) (s1 : List Int) (s5 : Int) : Option Bool :=
  bif decide (s5 < (List.length s0 : Int)) then
    (idx s0 s5).bind fun y1 =>
    (idx s1 s5).bind fun y2 =>
    bif y1 != y2 then
      some false
    else
      r0 s0 s1 (w64 (s5 + (1 : Int)))
  else
    some true
def F_R1_Ints_p0 (fu : Nat) : Nat → (List Int) → (List Int) → Int → Option Bool
  | 0, _, _, _ => none
  | n + 1, s0, s1, s5 => F_R1_Ints_b0 fu (F_R1_Ints_p0 fu n) s0 s1 s5
def F_R1_Ints (fu : Nat) (p0 : List Int) (p1 : List Int) : Option Bool :=
  bif (List.length p0 : Int) != (List.length p1 : Int) then
    some false
  else
    F_R1_Ints_p0 fu fu p0 p1 (0 : Int)
/- posthouse/posthouselaw2.zonesExample -/
def F_W2_zonesExample (fu : Nat) : Option Bool :=
  (F_W2_spring).bind fun x1 =>
  (F_zones_Offset fu x1 (1704067200 : Int)).bind fun x2 =>
  (F_W2_spring).bind fun x3 =>
  (F_zones_Offset fu x3 (1719792000 : Int)).bind fun x4 =>
  (F_W2_spring).bind fun x5 =>
  (F_zones_Instants fu x5 ((2024 : Int), ((3 : Int), ((31 : Int), ((2 : Int), ((30 : Int), ((0 : Int), (0 : Int)))))))).bind fun x6 =>
  (F_W2_spring).bind fun x7 =>
  (F_zones_Instants fu x7 ((2024 : Int), ((10 : Int), ((27 : Int), ((2 : Int), ((30 : Int), ((0 : Int), (0 : Int)))))))).bind fun x8 =>
  bif x2.2.1 == (0 : Int) then
    bif x4.2.1 == (0 : Int) then
      bif x6.1.1 == (0 : Int) then
        bif x8.1.1 == (0 : Int) then
          bif x2.1 == (60 : Int) then
            bif x4.1 == (120 : Int) then
              bif (List.length x6.2 : Int) == (0 : Int) then
                (F_R1_Ints fu x8.2 ([(1729989000 : Int), (1729992600 : Int)] : List Int)).bind fun x9 =>
                some x9
              else
                some false
            else
              some false
          else
            some false
        else
          some false
      else
        some false
    else
      some false
  else
    some false
/- posthouse/posthouseref1.In -/
def F_R1_In (p0 : Int) (p1 : Int) (p2 : Int) : Option Bool :=
  bif decide (p1 ≤ p0) then
    some (decide (p0 ≤ p2))
  else
    some false
/- posthouse/posthouseref2.ZoneName -/
def F_R2_ZoneName_b0 (fu : Nat) (r0 : (List UInt8) → Int → Option Bool) (s0 : List UInt8) (s3 : Int) : Option Bool :=
  bif decide (s3 < (List.length s0 : Int)) then
    (idx s0 s3).bind fun c1 =>
    (F_R1_In (c1.toNat : Int) (97 : Int) (122 : Int)).bind fun x2 =>
    bif !x2 then
      (F_R1_In (c1.toNat : Int) (65 : Int) (90 : Int)).bind fun x3 =>
      bif !x3 then
        (F_R1_In (c1.toNat : Int) (48 : Int) (57 : Int)).bind fun x4 =>
        bif !x4 then
          (idx s0 s3).bind fun c5 =>
          bif c5 != (45 : UInt8) then
            (idx s0 s3).bind fun c6 =>
            bif c6 != (95 : UInt8) then
              (idx s0 s3).bind fun c7 =>
              bif c7 != (46 : UInt8) then
                some false
              else
                r0 s0 (w64 (s3 + (1 : Int)))
            else
              r0 s0 (w64 (s3 + (1 : Int)))
          else
            r0 s0 (w64 (s3 + (1 : Int)))
        else
          r0 s0 (w64 (s3 + (1 : Int)))
      else
        r0 s0 (w64 (s3 + (1 : Int)))
    else
      r0 s0 (w64 (s3 + (1 : Int)))
  else
    (F_R1_In (List.length s0 : Int) (1 : Int) (60 : Int)).bind fun x8 =>
    some x8
def F_R2_ZoneName_p0 (fu : Nat) : Nat → (List UInt8) → Int → Option Bool
  | 0, _, _ => none
  | n + 1, s0, s3 => F_R2_ZoneName_b0 fu (F_R2_ZoneName_p0 fu n) s0 s3
def F_R2_ZoneName (fu : Nat) (p0 : List UInt8) : Option Bool :=
  F_R2_ZoneName_p0 fu fu p0 (0 : Int)
/- posthouse/posthouseref1.At -/
def F_R1_At (p0 : Int) (p1 : Int) : Option ((Int × Int)) :=
  some (p0, p1)
/- posthouse/posthouseref2.turnOk -/
def F_R2_turnOk (p0 : Int × Int × Int × Int) : Option Bool :=
  (F_R1_In p0.1 (1 : Int) (12 : Int)).bind fun x1 =>
  bif x1 then
    (F_R1_In p0.2.1 (1 : Int) (5 : Int)).bind fun x2 =>
    bif x2 then
      (F_R1_In p0.2.2.1 (0 : Int) (6 : Int)).bind fun x3 =>
      bif x3 then
        (F_R1_In p0.2.2.2 (0 : Int) (1439 : Int)).bind fun x4 =>
        some x4
      else
        some false
    else
      some false
  else
    some false
/- posthouse/posthouseref2.ZoneFault -/
def F_R2_ZoneFault_p2 (fu : Nat) (m16 : Int × Int) : Option ((Int × Int)) :=
  some ((0 : Int), (0 : Int))
def F_R2_ZoneFault_p0 (fu : Nat) (s27 : Bool) (m16 : Int × Int) : Option ((Int × Int)) :=
  bif s27 then
    (F_R1_At (5 : Int) (-5 : Int)).bind fun x1 =>
    some x1
  else
    F_R2_ZoneFault_p2 fu m16
def F_R2_ZoneFault_p3 (fu : Nat) (m16 : (List UInt8) × Int × Int × (Int × Int × Int × Int) × Int × Int × Int × Int) (m17 : Int × Int) : Option ((Int × Int)) :=
  (F_R2_turnOk m16.2.2.2.1).bind fun x1 =>
  bif !x1 then
    (F_R1_At (3 : Int) (-6 : Int)).bind fun x2 =>
    some x2
  else
    (F_R2_turnOk m16.2.2.2.2).bind fun x3 =>
    bif !x3 then
      (F_R1_At (3 : Int) (-7 : Int)).bind fun x4 =>
      some x4
    else
      bif m16.2.2.2.1.1 == m16.2.2.2.2.1 then
        (F_R1_At (5 : Int) (-7 : Int)).bind fun x5 =>
        some x5
      else
        some ((0 : Int), (0 : Int))
def F_R2_ZoneFault_p1 (fu : Nat) (s42 : Bool) (m16 : (List UInt8) × Int × Int × (Int × Int × Int × Int) × Int × Int × Int × Int) (m17 : Int × Int) : Option ((Int × Int)) :=
  bif s42 then
    (F_R1_At (3 : Int) (-5 : Int)).bind fun x1 =>
    some x1
  else
    F_R2_ZoneFault_p3 fu m16 m17
def F_R2_ZoneFault (fu : Nat) (p0 : (List UInt8) × Int × Int × (Int × Int × Int × Int) × Int × Int × Int × Int) : Option ((Int × Int)) :=
  (F_R2_ZoneName fu p0.1).bind fun x1 =>
  bif !x1 then
    (F_R1_At (10 : Int) (-3 : Int)).bind fun x2 =>
    some x2
  else
    (F_R1_In p0.2.1 (-900 : Int) (900 : Int)).bind fun x3 =>
    bif !x3 then
      (F_R1_At (3 : Int) (-4 : Int)).bind fun x4 =>
      some x4
    else
      bif ((p0.2.2.2.1.1 == (0 : Int)) && ((p0.2.2.2.1.2.1 == (0 : Int)) && ((p0.2.2.2.1.2.2.1 == (0 : Int)) && ((p0.2.2.2.1.2.2.2 == (0 : Int)) && true)))) then
        bif p0.2.2.1 != (0 : Int) then
          F_R2_ZoneFault_p0 fu true ((0 : Int), (0 : Int))
        else
          F_R2_ZoneFault_p0 fu (!((p0.2.2.2.2.1 == (0 : Int)) && ((p0.2.2.2.2.2.1 == (0 : Int)) && ((p0.2.2.2.2.2.2.1 == (0 : Int)) && ((p0.2.2.2.2.2.2.2 == (0 : Int)) && true))))) ((0 : Int), (0 : Int))
      else
        (F_R1_In p0.2.2.1 (-900 : Int) (900 : Int)).bind fun x5 =>
        bif !x5 then
          F_R2_ZoneFault_p1 fu true p0 ((0 : Int), (0 : Int))
        else
          (F_R1_In (w64 (p0.2.2.1 - p0.2.1)) (1 : Int) (180 : Int)).bind fun x6 =>
          F_R2_ZoneFault_p1 fu (!x6) p0 ((0 : Int), (0 : Int))
/- posthouse/posthouseref1.Leap -/
def F_R1_Leap (p0 : Int) : Option Bool :=
  bif (Int.tmod p0 (4 : Int)) == (0 : Int) then
    bif (Int.tmod p0 (100 : Int)) != (0 : Int) then
      some true
    else
      some ((Int.tmod p0 (400 : Int)) == (0 : Int))
  else
    some ((Int.tmod p0 (400 : Int)) == (0 : Int))
/- posthouse/posthouseref1.YearStart -/
def F_R1_YearStart_p1 (fu : Nat) (r0 : Int → Int → Int → Option Int) (s0 : Int) (s3 : Int) (s4 : Int) : Option Int :=
  r0 s0 s3 (w64 (s4 + (1 : Int)))
def F_R1_YearStart_b2 (fu : Nat) (r2 : Int → Int → Option Int) (s3 : Int) (s5 : Int) : Option Int :=
  bif decide (s5 < (1970 : Int)) then
    (F_R1_Leap s5).bind fun x1 =>
    bif x1 then
      r2 (w64 (s3 - (1 : Int))) (w64 (s5 + (1 : Int)))
    else
      r2 s3 (w64 (s5 + (1 : Int)))
  else
    some s3
def F_R1_YearStart_p2 (fu : Nat) : Nat → Int → Int → Option Int
  | 0, _, _ => none
  | n + 1, s3, s5 => F_R1_YearStart_b2 fu (F_R1_YearStart_p2 fu n) s3 s5
def F_R1_YearStart_b0 (fu : Nat) (r0 : Int → Int → Int → Option Int) (s0 : Int) (s3 : Int) (s4 : Int) : Option Int :=
  bif decide (s4 < s0) then
    (F_R1_Leap s4).bind fun x1 =>
    bif x1 then
      F_R1_YearStart_p1 fu r0 s0 (w64 (s3 + (1 : Int))) s4
    else
      F_R1_YearStart_p1 fu r0 s0 s3 s4
  else
    F_R1_YearStart_p2 fu fu s3 s0
def F_R1_YearStart_p0 (fu : Nat) : Nat → Int → Int → Int → Option Int
  | 0, _, _, _ => none
  | n + 1, s0, s3, s4 => F_R1_YearStart_b0 fu (F_R1_YearStart_p0 fu n) s0 s3 s4
def F_R1_YearStart (fu : Nat) (p0 : Int) : Option Int :=
  F_R1_YearStart_p0 fu fu p0 (w64 ((365 : Int) * (w64 (p0 - (1970 : Int))))) (1970 : Int)
/- posthouse/posthouseref1.MonthDays -/
def F_R1_MonthDays (p0 : Int) (p1 : Int) : Option Int :=
  bif p1 == (2 : Int) then
    (F_R1_Leap p0).bind fun x1 =>
    bif x1 then
      some (29 : Int)
    else
      bif decide (0 ≤ w64 (p1 - (1 : Int)) ∧ (w64 (p1 - (1 : Int))).toNat < List.length ([(31 : Int), (28 : Int), (31 : Int), (30 : Int), (31 : Int), (30 : Int), (31 : Int), (31 : Int), (30 : Int), (31 : Int), (30 : Int), (31 : Int)] : List Int)) then
      (([(31 : Int), (28 : Int), (31 : Int), (30 : Int), (31 : Int), (30 : Int), (31 : Int), (31 : Int), (30 : Int), (31 : Int), (30 : Int), (31 : Int)] : List Int)[(w64 (p1 - (1 : Int))).toNat]?).bind fun y2 =>
      some y2
      else none
  else
    bif decide (0 ≤ w64 (p1 - (1 : Int)) ∧ (w64 (p1 - (1 : Int))).toNat < List.length ([(31 : Int), (28 : Int), (31 : Int), (30 : Int), (31 : Int), (30 : Int), (31 : Int), (31 : Int), (30 : Int), (31 : Int), (30 : Int), (31 : Int)] : List Int)) then
    (([(31 : Int), (28 : Int), (31 : Int), (30 : Int), (31 : Int), (30 : Int), (31 : Int), (31 : Int), (30 : Int), (31 : Int), (30 : Int), (31 : Int)] : List Int)[(w64 (p1 - (1 : Int))).toNat]?).bind fun y3 =>
    some y3
    else none
/- posthouse/posthouseref1.DayNumber -/
def F_R1_DayNumber_b0 (fu : Nat) (r0 : Int → Int → Int → Int → Option Int) (s0 : Int) (s1 : Int) (s7 : Int) (s8 : Int) : Option Int :=
  bif decide (s8 < s1) then
    (F_R1_MonthDays s0 s8).bind fun x1 =>
    r0 s0 s1 (w64 (s7 + x1)) (w64 (s8 + (1 : Int)))
  else
    some s7
def F_R1_DayNumber_p0 (fu : Nat) : Nat → Int → Int → Int → Int → Option Int
  | 0, _, _, _, _ => none
  | n + 1, s0, s1, s7, s8 => F_R1_DayNumber_b0 fu (F_R1_DayNumber_p0 fu n) s0 s1 s7 s8
def F_R1_DayNumber (fu : Nat) (p0 : Int) (p1 : Int) (p2 : Int) : Option Int :=
  (F_R1_YearStart fu p0).bind fun x1 =>
  F_R1_DayNumber_p0 fu fu p0 p1 (w64 ((w64 (x1 + p2)) - (1 : Int))) (1 : Int)
/- posthouse/posthouseref1.DateOf -/
abbrev R_R1_DateOf : Type := (Int × Int × Int × Int × Int × Int × Int) × Bool
def F_R1_DateOf_b5 (fu : Nat) (r5 : Int → Int → Int → Int → Int → (Int × Int × Int × Int × Int × Int × Int) → Option R_R1_DateOf) (s1 : Int) (s7 : Int) (s8 : Int) (s9 : Int) (s10 : Int) (m16 : Int × Int × Int × Int × Int × Int × Int) : Option R_R1_DateOf :=
  (F_R1_MonthDays s9 s10).bind fun x1 =>
  bif decide (x1 ≤ s8) then
    (F_R1_MonthDays s9 s10).bind fun x2 =>
    r5 s1 s7 (w64 (s8 - x2)) s9 (w64 (s10 + (1 : Int))) m16
  else
    some ((s9, (s10, (w64 (s8 + (1 : Int)), (w64 (Int.tdiv s7 (3600 : Int)), (Int.tmod (w64 (Int.tdiv s7 (60 : Int))) (60 : Int), (Int.tmod s7 (60 : Int), s1)))))), true)
def F_R1_DateOf_p5 (fu : Nat) : Nat → Int → Int → Int → Int → Int → (Int × Int × Int × Int × Int × Int × Int) → Option R_R1_DateOf
  | 0, _, _, _, _, _, _ => none
  | n + 1, s1, s7, s8, s9, s10, m16 => F_R1_DateOf_b5 fu (F_R1_DateOf_p5 fu n) s1 s7 s8 s9 s10 m16
def F_R1_DateOf_b4 (fu : Nat) (r4 : Int → Int → Int → Int → (Int × Int × Int × Int × Int × Int × Int) → Option R_R1_DateOf) (s1 : Int) (s7 : Int) (s8 : Int) (s9 : Int) (m16 : Int × Int × Int × Int × Int × Int × Int) : Option R_R1_DateOf :=
  (F_R1_YearStart fu (w64 (s9 + (1 : Int)))).bind fun x1 =>
  bif decide (x1 ≤ s8) then
    r4 s1 s7 s8 (w64 (s9 + (1 : Int))) m16
  else
    (F_R1_YearStart fu s9).bind fun x2 =>
    F_R1_DateOf_p5 fu fu s1 s7 (w64 (s8 - x2)) s9 (1 : Int) m16
def F_R1_DateOf_p4 (fu : Nat) : Nat → Int → Int → Int → Int → (Int × Int × Int × Int × Int × Int × Int) → Option R_R1_DateOf
  | 0, _, _, _, _, _ => none
  | n + 1, s1, s7, s8, s9, m16 => F_R1_DateOf_b4 fu (F_R1_DateOf_p4 fu n) s1 s7 s8 s9 m16
def F_R1_DateOf_p3 (fu : Nat) (s1 : Int) (s7 : Int) (s8 : Int) (s9 : Int) (m16 : Int × Int × Int × Int × Int × Int × Int) : Option R_R1_DateOf :=
  bif decide (s9 < (1 : Int)) then
    F_R1_DateOf_p4 fu fu s1 s7 s8 (1 : Int) m16
  else
    F_R1_DateOf_p4 fu fu s1 s7 s8 s9 m16
def F_R1_DateOf_p2 (fu : Nat) (s1 : Int) (s7 : Int) (s8 : Int) (m16 : Int × Int × Int × Int × Int × Int × Int) : Option R_R1_DateOf :=
  bif decide (s8 < (0 : Int)) then
    F_R1_DateOf_p3 fu s1 s7 s8 (w64 ((w64 ((1970 : Int) + (w64 (Int.tdiv s8 (365 : Int))))) - (2 : Int))) m16
  else
    F_R1_DateOf_p3 fu s1 s7 s8 (w64 ((1970 : Int) + (w64 (Int.tdiv s8 (366 : Int))))) m16
def F_R1_DateOf_p1 (fu : Nat) (s1 : Int) (s7 : Int) (s8 : Int) (s32 : Bool) (m16 : Int × Int × Int × Int × Int × Int × Int) : Option R_R1_DateOf :=
  bif s32 then
    some (((0 : Int), ((0 : Int), ((0 : Int), ((0 : Int), ((0 : Int), ((0 : Int), (0 : Int))))))), false)
  else
    F_R1_DateOf_p2 fu s1 s7 s8 m16
def F_R1_DateOf_p0 (fu : Nat) (s1 : Int) (s6 : Int) (s7 : Int) (m16 : Int × Int × Int × Int × Int × Int × Int) : Option R_R1_DateOf :=
  (F_R1_DayNumber fu (1 : Int) (1 : Int) (1 : Int)).bind fun x1 =>
  bif decide ((w64 (Int.tdiv (w64 (s6 - s7)) (86400 : Int))) < x1) then
    F_R1_DateOf_p1 fu s1 s7 (w64 (Int.tdiv (w64 (s6 - s7)) (86400 : Int))) true m16
  else
    (F_R1_DayNumber fu (4000 : Int) (12 : Int) (31 : Int)).bind fun x2 =>
    F_R1_DateOf_p1 fu s1 s7 (w64 (Int.tdiv (w64 (s6 - s7)) (86400 : Int))) (decide (x2 < (w64 (Int.tdiv (w64 (s6 - s7)) (86400 : Int))))) m16
def F_R1_DateOf (fu : Nat) (p0 : Int) (p1 : Int) : Option R_R1_DateOf :=
  bif decide ((Int.tmod (w64 (p0 + (w64 ((60 : Int) * p1)))) (86400 : Int)) < (0 : Int)) then
    F_R1_DateOf_p0 fu p1 (w64 (p0 + (w64 ((60 : Int) * p1)))) (w64 ((Int.tmod (w64 (p0 + (w64 ((60 : Int) * p1)))) (86400 : Int)) + (86400 : Int))) ((0 : Int), ((0 : Int), ((0 : Int), ((0 : Int), ((0 : Int), ((0 : Int), (0 : Int)))))))
  else
    F_R1_DateOf_p0 fu p1 (w64 (p0 + (w64 ((60 : Int) * p1)))) (Int.tmod (w64 (p0 + (w64 ((60 : Int) * p1)))) (86400 : Int)) ((0 : Int), ((0 : Int), ((0 : Int), ((0 : Int), ((0 : Int), ((0 : Int), (0 : Int)))))))
/- posthouse/posthouseref1.WeekdayOf -/
def F_R1_WeekdayOf (fu : Nat) (p0 : Int) (p1 : Int) (p2 : Int) : Option Int :=
  (F_R1_DayNumber fu p0 p1 p2).bind fun x1 =>
  bif decide ((Int.tmod (w64 (x1 + (4 : Int))) (7 : Int)) < (0 : Int)) then
    some (w64 ((Int.tmod (w64 (x1 + (4 : Int))) (7 : Int)) + (7 : Int)))
  else
    some (Int.tmod (w64 (x1 + (4 : Int))) (7 : Int))
/- posthouse/posthouseref2.TurnDay -/
def F_R2_TurnDay_b0 (fu : Nat) (r0 : Int → Int → Int → Int → Int → (Int × Int × Int × Int) → Option Int) (s1 : Int) (s5 : Int) (s6 : Int) (s7 : Int) (s8 : Int) (m16 : Int × Int × Int × Int) : Option Int :=
  (F_R1_MonthDays s1 m16.1).bind fun x1 =>
  bif decide (s8 ≤ x1) then
    bif (Int.tmod (w64 ((w64 (s7 + s8)) - (1 : Int))) (7 : Int)) != m16.2.2.1 then
      r0 s1 s5 s6 s7 (w64 (s8 + (1 : Int))) m16
    else
      bif (w64 (s5 + (1 : Int))) == m16.2.1 then
        some s8
      else
        r0 s1 (w64 (s5 + (1 : Int))) s8 s7 (w64 (s8 + (1 : Int))) m16
  else
    some s6
def F_R2_TurnDay_p0 (fu : Nat) : Nat → Int → Int → Int → Int → Int → (Int × Int × Int × Int) → Option Int
  | 0, _, _, _, _, _, _ => none
  | n + 1, s1, s5, s6, s7, s8, m16 => F_R2_TurnDay_b0 fu (F_R2_TurnDay_p0 fu n) s1 s5 s6 s7 s8 m16
def F_R2_TurnDay (fu : Nat) (p0 : Int × Int × Int × Int) (p1 : Int) : Option Int :=
  (F_R1_WeekdayOf fu p1 p0.1 (1 : Int)).bind fun x1 =>
  F_R2_TurnDay_p0 fu fu p1 (0 : Int) (0 : Int) x1 (1 : Int) p0
/- posthouse/posthouseref1.SecondsOf -/
def F_R1_SecondsOf (fu : Nat) (p0 : Int × Int × Int × Int × Int × Int × Int) : Option Int :=
  (F_R1_DayNumber fu p0.1 p0.2.1 p0.2.2.1).bind fun x1 =>
  some (w64 ((w64 ((w64 ((w64 ((w64 ((86400 : Int) * x1)) + (w64 ((3600 : Int) * p0.2.2.2.1)))) + (w64 ((60 : Int) * p0.2.2.2.2.1)))) + p0.2.2.2.2.2.1)) - (w64 ((60 : Int) * p0.2.2.2.2.2.2))))
/- posthouse/posthouseref2.TurnInstant -/
def F_R2_TurnInstant (fu : Nat) (p0 : Int × Int × Int × Int) (p1 : Int) (p2 : Int) : Option Int :=
  (F_R2_TurnDay fu p0 p1).bind fun x1 =>
  (F_R1_SecondsOf fu (p1, (p0.1, (x1, ((0 : Int), ((0 : Int), ((0 : Int), (0 : Int)))))))).bind fun x2 =>
  some (w64 (x2 + (w64 ((60 : Int) * (w64 (p0.2.2.2 - p2))))))
/- posthouse/posthouseref2.OffsetNear -/
def F_R2_OffsetNear_p2 (fu : Nat) (r0 : Int → Int → Int → Int → Int → ((List UInt8) × Int × Int × (Int × Int × Int × Int) × Int × Int × Int × Int) → Option Int) (s1 : Int) (s2 : Int) (s7 : Int) (s8 : Int) (s9 : Int) (s11 : Int) (m16 : (List UInt8) × Int × Int × (Int × Int × Int × Int) × Int × Int × Int × Int) : Option Int :=
  bif decide (s11 ≤ s1) then
    bif decide (s8 ≤ s11) then
      r0 s1 s2 m16.2.1 s11 (w64 (s9 - (1 : Int))) m16
    else
      r0 s1 s2 s7 s8 (w64 (s9 - (1 : Int))) m16
  else
    r0 s1 s2 s7 s8 (w64 (s9 - (1 : Int))) m16
def F_R2_OffsetNear_p1 (fu : Nat) (r0 : Int → Int → Int → Int → Int → ((List UInt8) × Int × Int × (Int × Int × Int × Int) × Int × Int × Int × Int) → Option Int) (s1 : Int) (s2 : Int) (s7 : Int) (s8 : Int) (s9 : Int) (s10 : Int) (s11 : Int) (s46 : Bool) (m16 : (List UInt8) × Int × Int × (Int × Int × Int × Int) × Int × Int × Int × Int) : Option Int :=
  bif s46 then
    F_R2_OffsetNear_p2 fu r0 s1 s2 m16.2.2.1 s10 s9 s11 m16
  else
    F_R2_OffsetNear_p2 fu r0 s1 s2 s7 s8 s9 s11 m16
def F_R2_OffsetNear_b0 (fu : Nat) (r0 : Int → Int → Int → Int → Int → ((List UInt8) × Int × Int × (Int × Int × Int × Int) × Int × Int × Int × Int) → Option Int) (s1 : Int) (s2 : Int) (s7 : Int) (s8 : Int) (s9 : Int) (m16 : (List UInt8) × Int × Int × (Int × Int × Int × Int) × Int × Int × Int × Int) : Option Int :=
  bif decide ((w64 (s2 - (1 : Int))) ≤ s9) then
    (F_R2_TurnInstant fu m16.2.2.2.1 s9 m16.2.1).bind fun x1 =>
    (F_R2_TurnInstant fu m16.2.2.2.2 s9 m16.2.2.1).bind fun x2 =>
    bif decide (x1 ≤ s1) then
      F_R2_OffsetNear_p1 fu r0 s1 s2 s7 s8 s9 x1 x2 (decide (s8 < x1)) m16
    else
      F_R2_OffsetNear_p1 fu r0 s1 s2 s7 s8 s9 x1 x2 false m16
  else
    some s7
def F_R2_OffsetNear_p0 (fu : Nat) : Nat → Int → Int → Int → Int → Int → ((List UInt8) × Int × Int × (Int × Int × Int × Int) × Int × Int × Int × Int) → Option Int
  | 0, _, _, _, _, _, _ => none
  | n + 1, s1, s2, s7, s8, s9, m16 => F_R2_OffsetNear_b0 fu (F_R2_OffsetNear_p0 fu n) s1 s2 s7 s8 s9 m16
def F_R2_OffsetNear (fu : Nat) (p0 : (List UInt8) × Int × Int × (Int × Int × Int × Int) × Int × Int × Int × Int) (p1 : Int) (p2 : Int) : Option Int :=
  bif p0.2.2.2.1.1 == (0 : Int) then
    some p0.2.1
  else
    F_R2_OffsetNear_p0 fu fu p1 p2 p0.2.1 (-1152921504606846976 : Int) (w64 (p2 + (1 : Int))) p0
/- posthouse/posthouseref2.OffsetOf -/
def F_R2_OffsetOf (fu : Nat) (p0 : (List UInt8) × Int × Int × (Int × Int × Int × Int) × Int × Int × Int × Int) (p1 : Int) : Option (Int × (Int × Int)) :=
  (F_R1_In p1 (-68719476736 : Int) (68719476736 : Int)).bind fun x1 =>
  bif !x1 then
    (F_R1_At (3 : Int) (-2 : Int)).bind fun x2 =>
    some ((0 : Int), x2)
  else
    (F_R1_DateOf fu p1 p0.2.1).bind fun x3 =>
    bif !x3.2 then
      (F_R1_At (3 : Int) (-8 : Int)).bind fun x4 =>
      some ((0 : Int), x4)
    else
      (F_R1_In x3.1.1 (2 : Int) (3999 : Int)).bind fun x5 =>
      bif !x5 then
        (F_R1_At (3 : Int) (-8 : Int)).bind fun x6 =>
        some ((0 : Int), x6)
      else
        (F_R2_OffsetNear fu p0 p1 x3.1.1).bind fun x7 =>
        some (x7, ((0 : Int), (0 : Int)))
/- posthouse/posthouselaw2.ZonesOffsetMatchesSpec -/
def F_W2_ZonesOffsetMatchesSpec_p1 (fu : Nat) (s1 : Int) (m16 : (List UInt8) × Int × Int × (Int × Int × Int × Int) × Int × Int × Int × Int) : Option Bool :=
  (F_zones_Offset fu m16 s1).bind fun x1 =>
  (F_R2_ZoneFault fu m16).bind fun x2 =>
  bif x2.1 != (0 : Int) then
    bif ((x1.2.1 == x2.1) && ((x1.2.2 == x2.2) && true)) then
      some (x1.1 == (0 : Int))
    else
      some false
  else
    (F_R2_OffsetOf fu m16 s1).bind fun x3 =>
    bif ((x1.2.1 == x3.2.1) && ((x1.2.2 == x3.2.2) && true)) then
      some (x1.1 == x3.1)
    else
      some false
def F_W2_ZonesOffsetMatchesSpec_p0 (fu : Nat) (s1 : Int) (s18 : Bool) (m16 : (List UInt8) × Int × Int × (Int × Int × Int × Int) × Int × Int × Int × Int) : Option Bool :=
  bif s18 then
    some false
  else
    F_W2_ZonesOffsetMatchesSpec_p1 fu s1 m16
def F_W2_ZonesOffsetMatchesSpec (fu : Nat) (p0 : (List UInt8) × Int × Int × (Int × Int × Int × Int) × Int × Int × Int × Int) (p1 : Int) : Option Bool :=
  (F_W2_zonesExample fu).bind fun x1 =>
  bif !x1 then
    F_W2_ZonesOffsetMatchesSpec_p0 fu p1 true p0
  else
    (F_zones_Validate fu p0).bind fun x2 =>
    (F_R2_ZoneFault fu p0).bind fun x3 =>
    F_W2_ZonesOffsetMatchesSpec_p0 fu p1 (!((x2.1 == x3.1) && ((x2.2 == x3.2) && true))) p0
/- posthouse/posthouseref1.DateFault -/
def F_R1_DateFault (p0 : Int × Int × Int × Int × Int × Int × Int) : Option ((Int × Int)) :=
  (F_R1_In p0.1 (1 : Int) (4000 : Int)).bind fun x1 =>
  bif !x1 then
    (F_R1_At (3 : Int) (-3 : Int)).bind fun x2 =>
    some x2
  else
    (F_R1_In p0.2.1 (1 : Int) (12 : Int)).bind fun x3 =>
    bif !x3 then
      (F_R1_At (3 : Int) (-3 : Int)).bind fun x4 =>
      some x4
    else
      (F_R1_MonthDays p0.1 p0.2.1).bind fun x5 =>
      (F_R1_In p0.2.2.1 (1 : Int) x5).bind fun x6 =>
      bif !x6 then
        (F_R1_At (3 : Int) (-3 : Int)).bind fun x7 =>
        some x7
      else
        (F_R1_In p0.2.2.2.1 (0 : Int) (23 : Int)).bind fun x8 =>
        bif !x8 then
          (F_R1_At (3 : Int) (-3 : Int)).bind fun x9 =>
          some x9
        else
          (F_R1_In p0.2.2.2.2.1 (0 : Int) (59 : Int)).bind fun x10 =>
          bif !x10 then
            (F_R1_At (3 : Int) (-3 : Int)).bind fun x11 =>
            some x11
          else
            (F_R1_In p0.2.2.2.2.2.1 (0 : Int) (59 : Int)).bind fun x12 =>
            bif !x12 then
              (F_R1_At (3 : Int) (-3 : Int)).bind fun x13 =>
              some x13
            else
              (F_R1_In p0.2.2.2.2.2.2 (-900 : Int) (900 : Int)).bind fun x14 =>
              bif !x14 then
                (F_R1_At (3 : Int) (-3 : Int)).bind fun x15 =>
                some x15
              else
                some ((0 : Int), (0 : Int))
/- posthouse/posthouseref2.LocalFault -/
def F_R2_LocalFault (p0 : Int × Int × Int × Int × Int × Int × Int) : Option ((Int × Int)) :=
  (F_R1_DateFault p0).bind fun x1 =>
  bif x1.1 != (0 : Int) then
    some x1
  else
    bif p0.2.2.2.2.2.2 != (0 : Int) then
      (F_R1_At (5 : Int) (-9 : Int)).bind fun x2 =>
      some x2
    else
      (F_R1_In p0.1 (3 : Int) (3998 : Int)).bind fun x3 =>
      bif !x3 then
        (F_R1_At (3 : Int) (-9 : Int)).bind fun x4 =>
        some x4
      else
        some x1
/- posthouse/posthouseref2.InstantsOf -/
def F_R2_InstantsOf_p1 (fu : Nat) (s7 : Int) (m16 : (List UInt8) × Int × Int × (Int × Int × Int × Int) × Int × Int × Int × Int) (m17 : Int × Int × Int × Int × Int × Int × Int) (m18 : List Int) : Option ((List Int)) :=
  (F_R2_OffsetNear fu m16 s7 m17.1).bind fun x1 =>
  bif x1 == m16.2.1 then
    bif decide (List.length (m18 ++ ([s7] : List Int)) ≤ rowMax) then
    some (m18 ++ ([s7] : List Int))
    else none
  else
    some m18
def F_R2_InstantsOf_p0 (fu : Nat) (s6 : Int) (s7 : Int) (s46 : Bool) (m16 : (List UInt8) × Int × Int × (Int × Int × Int × Int) × Int × Int × Int × Int) (m17 : Int × Int × Int × Int × Int × Int × Int) : Option ((List Int)) :=
  bif s46 then
    bif decide (List.length ([s6] : List Int) ≤ rowMax) then
    F_R2_InstantsOf_p1 fu s7 m16 m17 ([s6] : List Int)
    else none
  else
    F_R2_InstantsOf_p1 fu s7 m16 m17 []
def F_R2_InstantsOf (fu : Nat) (p0 : (List UInt8) × Int × Int × (Int × Int × Int × Int) × Int × Int × Int × Int) (p1 : Int × Int × Int × Int × Int × Int × Int) : Option ((List Int)) :=
  (F_R1_SecondsOf fu (p1.1, (p1.2.1, (p1.2.2.1, (p1.2.2.2.1, (p1.2.2.2.2.1, (p1.2.2.2.2.2.1, (0 : Int)))))))).bind fun x1 =>
  bif decide ((0 : Int) < p0.2.2.2.1.1) then
    (F_R2_OffsetNear fu p0 (w64 (x1 - (w64 ((60 : Int) * p0.2.2.1)))) p1.1).bind fun x2 =>
    F_R2_InstantsOf_p0 fu (w64 (x1 - (w64 ((60 : Int) * p0.2.2.1)))) (w64 (x1 - (w64 ((60 : Int) * p0.2.1)))) (x2 == p0.2.2.1) p0 p1
  else
    F_R2_InstantsOf_p0 fu (w64 (x1 - (w64 ((60 : Int) * p0.2.2.1)))) (w64 (x1 - (w64 ((60 : Int) * p0.2.1)))) false p0 p1
/- posthouse/posthouselaw2.ZonesInstantsMatchesSpec -/
def F_W2_ZonesInstantsMatchesSpec_p0 (fu : Nat) (m16 : (List UInt8) × Int × Int × (Int × Int × Int × Int) × Int × Int × Int × Int) (m17 : Int × Int × Int × Int × Int × Int × Int) (m18 : List Int) (m19 : Int × Int) (m20 : Int × Int) : Option Bool :=
  bif m20.1 != (0 : Int) then
    bif ((m19.1 == m20.1) && ((m19.2 == m20.2) && true)) then
      some ((List.length m18 : Int) == (0 : Int))
    else
      some false
  else
    bif m19.1 == (0 : Int) then
      (F_R2_InstantsOf fu m16 m17).bind fun x1 =>
      (F_R1_Ints fu m18 x1).bind fun x2 =>
      some x2
    else
      some false
def F_W2_ZonesInstantsMatchesSpec (fu : Nat) (p0 : (List UInt8) × Int × Int × (Int × Int × Int × Int) × Int × Int × Int × Int) (p1 : Int × Int × Int × Int × Int × Int × Int) : Option Bool :=
  (F_W2_zonesExample fu).bind fun x1 =>
  bif !x1 then
    some false
  else
    (F_zones_Instants fu p0 p1).bind fun x2 =>
    (F_R2_ZoneFault fu p0).bind fun x3 =>
    bif x3.1 == (0 : Int) then
      (F_R2_LocalFault p1).bind fun x4 =>
      F_W2_ZonesInstantsMatchesSpec_p0 fu p0 p1 x2.2 x2.1 x4
    else
      F_W2_ZonesInstantsMatchesSpec_p0 fu p0 p1 x2.2 x2.1 x3
/- posthouse/posthouseref2.Has -/
def F_R2_Has_b0 (fu : Nat) (r0 : (List Int) → Int → Int → Option Bool) (s0 : List Int) (s1 : Int) (s5 : Int) : Option Bool :=
  bif decide (s5 < (List.length s0 : Int)) then
    (idx s0 s5).bind fun y1 =>
    bif y1 == s1 then
      some true
    else
      r0 s0 s1 (w64 (s5 + (1 : Int)))
  else
    some false
def F_R2_Has_p0 (fu : Nat) : Nat → (List Int) → Int → Int → Option Bool
  | 0, _, _, _ => none
  | n + 1, s0, s1, s5 => F_R2_Has_b0 fu (F_R2_Has_p0 fu n) s0 s1 s5
def F_R2_Has (fu : Nat) (p0 : List Int) (p1 : Int) : Option Bool :=
  F_R2_Has_p0 fu fu p0 p1 (0 : Int)
/- posthouse/posthouselaw2.ZonesLocalDates -/
def F_W2_ZonesLocalDates_b4 (fu : Nat) (r4 : Int → ((List UInt8) × Int × Int × (Int × Int × Int × Int) × Int × Int × Int × Int) → (Int × Int × Int × Int × Int × Int × Int) → (List Int) → Option Bool) (s11 : Int) (m16 : (List UInt8) × Int × Int × (Int × Int × Int × Int) × Int × Int × Int × Int) (m17 : Int × Int × Int × Int × Int × Int × Int) (m18 : List Int) : Option Bool :=
  bif decide (s11 < (List.length m18 : Int)) then
    bif decide (0 ≤ s11 ∧ s11.toNat < List.length m18) then
    (m18[s11.toNat]?).bind fun y1 =>
    (F_zones_Offset fu m16 y1).bind fun x2 =>
    bif decide (0 ≤ s11 ∧ s11.toNat < List.length m18) then
    (m18[s11.toNat]?).bind fun y3 =>
    (F_dates_Civil fu y3 x2.1).bind fun x4 =>
    bif x2.2.1 != (0 : Int) then
      some false
    else
      bif x4.2.1 != (0 : Int) then
        some false
      else
        bif !((x4.1.1 == m17.1) && ((x4.1.2.1 == m17.2.1) && ((x4.1.2.2.1 == m17.2.2.1) && ((x4.1.2.2.2.1 == m17.2.2.2.1) && ((x4.1.2.2.2.2.1 == m17.2.2.2.2.1) && ((x4.1.2.2.2.2.2.1 == m17.2.2.2.2.2.1) && (((0 : Int) == m17.2.2.2.2.2.2) && true))))))) then
          some false
        else
          bif decide ((0 : Int) < s11) then
            bif decide (0 ≤ s11 ∧ s11.toNat < List.length m18) then
            (m18[s11.toNat]?).bind fun y5 =>
            bif decide (0 ≤ w64 (s11 - (1 : Int)) ∧ (w64 (s11 - (1 : Int))).toNat < List.length m18) then
            (m18[(w64 (s11 - (1 : Int))).toNat]?).bind fun y6 =>
            bif decide (y5 ≤ y6) then
              some false
            else
              r4 (w64 (s11 + (1 : Int))) m16 m17 m18
            else none
            else none
          else
            r4 (w64 (s11 + (1 : Int))) m16 m17 m18
    else none
    else none
  else
    some true
def F_W2_ZonesLocalDates_p4 (fu : Nat) : Nat → Int → ((List UInt8) × Int × Int × (Int × Int × Int × Int) × Int × Int × Int × Int) → (Int × Int × Int × Int × Int × Int × Int) → (List Int) → Option Bool
  | 0, _, _, _, _ => none
  | n + 1, s11, m16, m17, m18 => F_W2_ZonesLocalDates_b4 fu (F_W2_ZonesLocalDates_p4 fu n) s11 m16 m17 m18
def F_W2_ZonesLocalDates_p3 (fu : Nat) (m16 : (List UInt8) × Int × Int × (Int × Int × Int × Int) × Int × Int × Int × Int) (m17 : Int × Int × Int × Int × Int × Int × Int) (m18 : List Int) : Option Bool :=
  F_W2_ZonesLocalDates_p4 fu fu (0 : Int) m16 m17 m18
def F_W2_ZonesLocalDates_p2 (fu : Nat) (s64 : Bool) (m16 : (List UInt8) × Int × Int × (Int × Int × Int × Int) × Int × Int × Int × Int) (m17 : Int × Int × Int × Int × Int × Int × Int) (m18 : List Int) : Option Bool :=
  bif s64 then
    some false
  else
    F_W2_ZonesLocalDates_p3 fu m16 m17 m18
def F_W2_ZonesLocalDates_p1 (fu : Nat) (s1 : Int) (m16 : (List UInt8) × Int × Int × (Int × Int × Int × Int) × Int × Int × Int × Int) (m17 : Int × Int × Int × Int × Int × Int × Int) : Option Bool :=
  (F_zones_Instants fu m16 (m17.1, (m17.2.1, (m17.2.2.1, (m17.2.2.2.1, (m17.2.2.2.2.1, (m17.2.2.2.2.2.1, (0 : Int)))))))).bind fun x1 =>
  bif x1.1.1 != (0 : Int) then
    F_W2_ZonesLocalDates_p2 fu true m16 (m17.1, (m17.2.1, (m17.2.2.1, (m17.2.2.2.1, (m17.2.2.2.2.1, (m17.2.2.2.2.2.1, (0 : Int))))))) x1.2
  else
    (F_R2_Has fu x1.2 s1).bind fun x2 =>
    bif !x2 then
      F_W2_ZonesLocalDates_p2 fu true m16 (m17.1, (m17.2.1, (m17.2.2.1, (m17.2.2.2.1, (m17.2.2.2.2.1, (m17.2.2.2.2.2.1, (0 : Int))))))) x1.2
    else
      F_W2_ZonesLocalDates_p2 fu (decide ((2 : Int) < (List.length x1.2 : Int))) m16 (m17.1, (m17.2.1, (m17.2.2.1, (m17.2.2.2.1, (m17.2.2.2.2.1, (m17.2.2.2.2.2.1, (0 : Int))))))) x1.2
def F_W2_ZonesLocalDates_p0 (fu : Nat) (s1 : Int) (s43 : Bool) (m16 : (List UInt8) × Int × Int × (Int × Int × Int × Int) × Int × Int × Int × Int) (m17 : Int × Int × Int × Int × Int × Int × Int) : Option Bool :=
  bif s43 then
    some true
  else
    F_W2_ZonesLocalDates_p1 fu s1 m16 m17
def F_W2_ZonesLocalDates (fu : Nat) (p0 : (List UInt8) × Int × Int × (Int × Int × Int × Int) × Int × Int × Int × Int) (p1 : Int) : Option Bool :=
  (F_W2_zonesExample fu).bind fun x1 =>
  bif !x1 then
    some false
  else
    (F_zones_Offset fu p0 p1).bind fun x2 =>
    bif x2.2.1 != (0 : Int) then
      some (x2.1 == (0 : Int))
    else
      (F_dates_Civil fu p1 x2.1).bind fun x3 =>
      bif x3.2.1 != (0 : Int) then
        F_W2_ZonesLocalDates_p0 fu p1 true p0 x3.1
      else
        (F_R1_In x3.1.1 (3 : Int) (3998 : Int)).bind fun x4 =>
        F_W2_ZonesLocalDates_p0 fu p1 (!x4) p0 x3.1
/- posthouse/posthouselaw2.ZonesFixed -/
def F_W2_ZonesFixed_p1 (fu : Nat) (s1 : Int) (s10 : Int) (m16 : Int × Int × Int × Int × Int × Int × Int) (m17 : Int × Int) (m18 : List Int) (m19 : Int × Int) : Option Bool :=
  bif m17.1 != (0 : Int) then
    bif m19.1 != (0 : Int) then
      some true
    else
      (F_R1_SecondsOf fu (m16.1, (m16.2.1, (m16.2.2.1, (m16.2.2.2.1, (m16.2.2.2.2.1, (m16.2.2.2.2.2.1, s1))))))).bind fun x1 =>
      (F_R1_Ints fu m18 ([x1] : List Int)).bind fun x2 =>
      some x2
  else
    bif s10 == s1 then
      bif m19.1 != (0 : Int) then
        some true
      else
        (F_R1_SecondsOf fu (m16.1, (m16.2.1, (m16.2.2.1, (m16.2.2.2.1, (m16.2.2.2.2.1, (m16.2.2.2.2.2.1, s1))))))).bind fun x3 =>
        (F_R1_Ints fu m18 ([x3] : List Int)).bind fun x4 =>
        some x4
    else
      some false
def F_W2_ZonesFixed_p0 (fu : Nat) (s1 : Int) (s10 : Int) (s47 : Bool) (m16 : Int × Int × Int × Int × Int × Int × Int) (m17 : Int × Int) (m18 : List Int) (m19 : Int × Int) : Option Bool :=
  bif s47 then
    some false
  else
    F_W2_ZonesFixed_p1 fu s1 s10 m16 m17 m18 m19
def F_W2_ZonesFixed (fu : Nat) (p0 : List UInt8) (p1 : Int) (p2 : Int) (p3 : Int × Int × Int × Int × Int × Int × Int) : Option Bool :=
  (F_W2_zonesExample fu).bind fun x1 =>
  bif !x1 then
    some false
  else
    (F_zones_Offset fu (p0, (p1, ((0 : Int), (((0 : Int), ((0 : Int), ((0 : Int), (0 : Int)))), ((0 : Int), ((0 : Int), ((0 : Int), (0 : Int)))))))) p2).bind fun x2 =>
    (F_zones_Instants fu (p0, (p1, ((0 : Int), (((0 : Int), ((0 : Int), ((0 : Int), (0 : Int)))), ((0 : Int), ((0 : Int), ((0 : Int), (0 : Int)))))))) p3).bind fun x3 =>
    bif x2.2.1 != (0 : Int) then
      bif x2.1 != (0 : Int) then
        F_W2_ZonesFixed_p0 fu p1 x2.1 true p3 x2.2 x3.2 x3.1
      else
        bif x3.1.1 != (0 : Int) then
          F_W2_ZonesFixed_p0 fu p1 x2.1 ((List.length x3.2 : Int) != (0 : Int)) p3 x2.2 x3.2 x3.1
        else
          F_W2_ZonesFixed_p0 fu p1 x2.1 false p3 x2.2 x3.2 x3.1
    else
      bif x3.1.1 != (0 : Int) then
        F_W2_ZonesFixed_p0 fu p1 x2.1 ((List.length x3.2 : Int) != (0 : Int)) p3 x2.2 x3.2 x3.1
      else
        F_W2_ZonesFixed_p0 fu p1 x2.1 false p3 x2.2 x3.2 x3.1
/- posthouse/posthouselaw2.ZonesTurns -/
def F_W2_ZonesTurns_p4 (fu : Nat) (r2 : Int → Int → Int → Int → ((List UInt8) × Int × Int × (Int × Int × Int × Int) × Int × Int × Int × Int) → Option Bool) (s1 : Int) (s5 : Int) (s6 : Int) (s7 : Int) (s8 : Int) (m16 : (List UInt8) × Int × Int × (Int × Int × Int × Int) × Int × Int × Int × Int) : Option Bool :=
  bif decide ((0 : Int) < s7) then
    bif s8 != s6 then
      r2 s1 (w64 (s5 + (1 : Int))) s8 (w64 (s7 + (1 : Int))) m16
    else
      r2 s1 s5 s8 (w64 (s7 + (1 : Int))) m16
  else
    r2 s1 s5 s8 (w64 (s7 + (1 : Int))) m16
def F_W2_ZonesTurns_p3 (fu : Nat) (r2 : Int → Int → Int → Int → ((List UInt8) × Int × Int × (Int × Int × Int × Int) × Int × Int × Int × Int) → Option Bool) (s1 : Int) (s5 : Int) (s6 : Int) (s7 : Int) (s8 : Int) (s48 : Bool) (m16 : (List UInt8) × Int × Int × (Int × Int × Int × Int) × Int × Int × Int × Int) : Option Bool :=
  bif s48 then
    some false
  else
    F_W2_ZonesTurns_p4 fu r2 s1 s5 s6 s7 s8 m16
def F_W2_ZonesTurns_b2 (fu : Nat) (r2 : Int → Int → Int → Int → ((List UInt8) × Int × Int × (Int × Int × Int × Int) × Int × Int × Int × Int) → Option Bool) (s1 : Int) (s5 : Int) (s6 : Int) (s7 : Int) (m16 : (List UInt8) × Int × Int × (Int × Int × Int × Int) × Int × Int × Int × Int) : Option Bool :=
  bif decide (s7 ≤ (350 : Int)) then
    (F_zones_Offset fu m16 (w64 (s1 + (w64 ((86400 : Int) * s7))))).bind fun x1 =>
    bif x1.2.1 != (0 : Int) then
      F_W2_ZonesTurns_p3 fu r2 s1 s5 s6 s7 x1.1 true m16
    else
      bif x1.1 != m16.2.1 then
        F_W2_ZonesTurns_p3 fu r2 s1 s5 s6 s7 x1.1 (x1.1 != m16.2.2.1) m16
      else
        F_W2_ZonesTurns_p3 fu r2 s1 s5 s6 s7 x1.1 false m16
  else
    some (decide (s5 ≤ (2 : Int)))
def F_W2_ZonesTurns_p2 (fu : Nat) : Nat → Int → Int → Int → Int → ((List UInt8) × Int × Int × (Int × Int × Int × Int) × Int × Int × Int × Int) → Option Bool
  | 0, _, _, _, _, _ => none
  | n + 1, s1, s5, s6, s7, m16 => F_W2_ZonesTurns_b2 fu (F_W2_ZonesTurns_p2 fu n) s1 s5 s6 s7 m16
def F_W2_ZonesTurns_p1 (fu : Nat) (s1 : Int) (m16 : (List UInt8) × Int × Int × (Int × Int × Int × Int) × Int × Int × Int × Int) : Option Bool :=
  F_W2_ZonesTurns_p2 fu fu s1 (0 : Int) (0 : Int) (0 : Int) m16
def F_W2_ZonesTurns_p0 (fu : Nat) (s1 : Int) (s20 : Bool) (m16 : (List UInt8) × Int × Int × (Int × Int × Int × Int) × Int × Int × Int × Int) : Option Bool :=
  bif s20 then
    some true
  else
    F_W2_ZonesTurns_p1 fu s1 m16
def F_W2_ZonesTurns (fu : Nat) (p0 : (List UInt8) × Int × Int × (Int × Int × Int × Int) × Int × Int × Int × Int) (p1 : Int) : Option Bool :=
  (F_W2_zonesExample fu).bind fun x1 =>
  bif !x1 then
    some false
  else
    (F_zones_Validate fu p0).bind fun x2 =>
    bif x2.1 != (0 : Int) then
      F_W2_ZonesTurns_p0 fu p1 true p0
    else
      (F_R1_In p1 (-20000000000 : Int) (20000000000 : Int)).bind fun x3 =>
      F_W2_ZonesTurns_p0 fu p1 (!x3) p0
/- posthouse/posthouselaw2.thrice -/
abbrev R_W2_thrice : Type := (Int × Int × Int × Int × Bool × (List Int) × (List Int) × (List Int))
def F_W2_thrice : Option R_W2_thrice :=
  some ((1 : Int), ((1 : Int), ((3 : Int), ((0 : Int), (false, ([], ([], [])))))))
/- posthouse/recur.weekdays -/
def F_recur_weekdays_p4 (fu : Nat) (r2 : (List Int) → Int → Int → (Int × Int × Int × Int × Bool × (List Int) × (List Int) × (List Int)) → (Int × Int) → Option ((Int × Int))) (s3 : Int) (s4 : Int) (s16 : List Int) (s17 : Int) (s18 : Int) (m16 : Int × Int × Int × Int × Bool × (List Int) × (List Int) × (List Int)) (m17 : Int × Int) : Option ((Int × Int)) :=
  bif decide ((0 : Int) < s3) then
    (idx m16.2.2.2.2.2.1 (w64 (s3 - (1 : Int)))).bind fun y1 =>
    bif decide (s4 ≤ y1) then
      (F_basic_Fault (19 : Int) (-7 : Int)).bind fun x2 =>
      some x2
    else
      r2 s16 s17 (w64 (s18 + (1 : Int))) m16 m17
  else
    r2 s16 s17 (w64 (s18 + (1 : Int))) m16 m17
def F_recur_weekdays_p3 (fu : Nat) (r2 : (List Int) → Int → Int → (Int × Int × Int × Int × Bool × (List Int) × (List Int) × (List Int)) → (Int × Int) → Option ((Int × Int))) (s3 : Int) (s4 : Int) (s16 : List Int) (s17 : Int) (s18 : Int) (s28 : Bool) (m16 : Int × Int × Int × Int × Bool × (List Int) × (List Int) × (List Int)) (m17 : Int × Int) : Option ((Int × Int)) :=
  bif s28 then
    (F_basic_Fault (3 : Int) (-7 : Int)).bind fun x1 =>
    some x1
  else
    F_recur_weekdays_p4 fu r2 s3 s4 s16 s17 s18 m16 m17
def F_recur_weekdays_b2 (fu : Nat) (r2 : (List Int) → Int → Int → (Int × Int × Int × Int × Bool × (List Int) × (List Int) × (List Int)) → (Int × Int) → Option ((Int × Int))) (s16 : List Int) (s17 : Int) (s18 : Int) (m16 : Int × Int × Int × Int × Bool × (List Int) × (List Int) × (List Int)) (m17 : Int × Int) : Option ((Int × Int)) :=
  bif decide (s18 < s17) then
    (idx s16 s18).bind fun y1 =>
    bif decide (y1 < (0 : Int)) then
      F_recur_weekdays_p3 fu r2 s18 y1 s16 s17 s18 true m16 m17
    else
      F_recur_weekdays_p3 fu r2 s18 y1 s16 s17 s18 (decide ((6 : Int) < y1)) m16 m17
  else
    (F_basic_None).bind fun x2 =>
    some x2
def F_recur_weekdays_p2 (fu : Nat) : Nat → (List Int) → Int → Int → (Int × Int × Int × Int × Bool × (List Int) × (List Int) × (List Int)) → (Int × Int) → Option ((Int × Int))
  | 0, _, _, _, _, _ => none
  | n + 1, s16, s17, s18, m16, m17 => F_recur_weekdays_b2 fu (F_recur_weekdays_p2 fu n) s16 s17 s18 m16 m17
def F_recur_weekdays_p1 (fu : Nat) (m16 : Int × Int × Int × Int × Bool × (List Int) × (List Int) × (List Int)) (m17 : Int × Int) : Option ((Int × Int)) :=
  F_recur_weekdays_p2 fu fu m16.2.2.2.2.2.1 (List.length m16.2.2.2.2.2.1 : Int) (0 : Int) m16 m17
def F_recur_weekdays_p0 (fu : Nat) (s13 : Bool) (m16 : Int × Int × Int × Int × Bool × (List Int) × (List Int) × (List Int)) (m17 : Int × Int) : Option ((Int × Int)) :=
  bif s13 then
    (F_basic_Fault (5 : Int) (-7 : Int)).bind fun x1 =>
    some x1
  else
    F_recur_weekdays_p1 fu m16 m17
def F_recur_weekdays (fu : Nat) (p0 : Int × Int × Int × Int × Bool × (List Int) × (List Int) × (List Int)) : Option ((Int × Int)) :=
  bif decide ((0 : Int) < (List.length p0.2.2.2.2.2.1 : Int)) then
    F_recur_weekdays_p0 fu (p0.1 != (2 : Int)) p0 ((0 : Int), (0 : Int))
  else
    F_recur_weekdays_p0 fu false p0 ((0 : Int), (0 : Int))
/- posthouse/recur.list -/
def F_recur_list_b0 (fu : Nat) (r0 : (List Int) → Int → (List Int) → Int → Int → (Int × Int) → Option ((Int × Int))) (s0 : List Int) (s1 : Int) (s12 : List Int) (s13 : Int) (s14 : Int) (m16 : Int × Int) : Option ((Int × Int)) :=
  bif decide (s14 < s13) then
    (idx s12 s14).bind fun y1 =>
    (F_basic_Time y1).bind fun x2 =>
    bif !x2 then
      (F_basic_Fault (3 : Int) s1).bind fun x3 =>
      some x3
    else
      bif decide ((0 : Int) < s14) then
        (idx s0 (w64 (s14 - (1 : Int)))).bind fun y4 =>
        bif decide (y1 ≤ y4) then
          (F_basic_Fault (19 : Int) s1).bind fun x5 =>
          some x5
        else
          r0 s0 s1 s12 s13 (w64 (s14 + (1 : Int))) m16
      else
        r0 s0 s1 s12 s13 (w64 (s14 + (1 : Int))) m16
  else
    (F_basic_None).bind fun x6 =>
    some x6
def F_recur_list_p0 (fu : Nat) : Nat → (List Int) → Int → (List Int) → Int → Int → (Int × Int) → Option ((Int × Int))
  | 0, _, _, _, _, _, _ => none
  | n + 1, s0, s1, s12, s13, s14, m16 => F_recur_list_b0 fu (F_recur_list_p0 fu n) s0 s1 s12 s13 s14 m16
def F_recur_list (fu : Nat) (p0 : List Int) (p1 : Int) : Option ((Int × Int)) :=
  bif decide ((300 : Int) < (List.length p0 : Int)) then
    (F_basic_Fault (2 : Int) p1).bind fun x1 =>
    some x1
  else
    F_recur_list_p0 fu fu p0 p1 p0 (List.length p0 : Int) (0 : Int) ((0 : Int), (0 : Int))
/- posthouse/recur.Validate -/
def F_recur_Validate_p5 (fu : Nat) (m16 : Int × Int × Int × Int × Bool × (List Int) × (List Int) × (List Int)) (m17 : Int × Int) : Option ((Int × Int)) :=
  (F_recur_weekdays fu m16).bind fun x1 =>
  (F_basic_Failed x1).bind fun x2 =>
  bif x2 then
    some x1
  else
    (F_recur_list fu m16.2.2.2.2.2.2.1 (-8 : Int)).bind fun x3 =>
    (F_basic_Failed x3).bind fun x4 =>
    bif x4 then
      some x3
    else
      (F_recur_list fu m16.2.2.2.2.2.2.2 (-9 : Int)).bind fun x5 =>
      some x5
def F_recur_Validate_p4 (fu : Nat) (s45 : Bool) (m16 : Int × Int × Int × Int × Bool × (List Int) × (List Int) × (List Int)) (m17 : Int × Int) : Option ((Int × Int)) :=
  bif s45 then
    (F_basic_Fault (5 : Int) (-6 : Int)).bind fun x1 =>
    some x1
  else
    F_recur_Validate_p5 fu m16 m17
def F_recur_Validate_p3 (fu : Nat) (s35 : Bool) (m16 : Int × Int × Int × Int × Bool × (List Int) × (List Int) × (List Int)) (m17 : Int × Int) : Option ((Int × Int)) :=
  bif s35 then
    (F_basic_Fault (3 : Int) (-6 : Int)).bind fun x1 =>
    some x1
  else
    bif !m16.2.2.2.2.1 then
      F_recur_Validate_p4 fu (m16.2.2.2.1 != (0 : Int)) m16 m17
    else
      F_recur_Validate_p4 fu false m16 m17
def F_recur_Validate_p2 (fu : Nat) (s25 : Bool) (m16 : Int × Int × Int × Int × Bool × (List Int) × (List Int) × (List Int)) (m17 : Int × Int) : Option ((Int × Int)) :=
  bif s25 then
    (F_basic_Fault (3 : Int) (-5 : Int)).bind fun x1 =>
    some x1
  else
    bif m16.2.2.2.2.1 then
      (F_basic_Time m16.2.2.2.1).bind fun x2 =>
      F_recur_Validate_p3 fu (!x2) m16 m17
    else
      F_recur_Validate_p3 fu false m16 m17
def F_recur_Validate_p1 (fu : Nat) (s15 : Bool) (m16 : Int × Int × Int × Int × Bool × (List Int) × (List Int) × (List Int)) (m17 : Int × Int) : Option ((Int × Int)) :=
  bif s15 then
    (F_basic_Fault (3 : Int) (-4 : Int)).bind fun x1 =>
    some x1
  else
    bif decide (m16.2.2.1 < (0 : Int)) then
      F_recur_Validate_p2 fu true m16 m17
    else
      F_recur_Validate_p2 fu (decide ((1500 : Int) < m16.2.2.1)) m16 m17
def F_recur_Validate_p0 (fu : Nat) (s5 : Bool) (m16 : Int × Int × Int × Int × Bool × (List Int) × (List Int) × (List Int)) (m17 : Int × Int) : Option ((Int × Int)) :=
  bif s5 then
    (F_basic_Fault (4 : Int) (-3 : Int)).bind fun x1 =>
    some x1
  else
    bif decide (m16.2.1 < (1 : Int)) then
      F_recur_Validate_p1 fu true m16 m17
    else
      F_recur_Validate_p1 fu (decide ((100 : Int) < m16.2.1)) m16 m17
def F_recur_Validate (fu : Nat) (p0 : Int × Int × Int × Int × Bool × (List Int) × (List Int) × (List Int)) : Option ((Int × Int)) :=
  bif decide (p0.1 < (0 : Int)) then
    F_recur_Validate_p0 fu true p0 ((0 : Int), (0 : Int))
  else
    F_recur_Validate_p0 fu (decide ((4 : Int) < p0.1)) p0 ((0 : Int), (0 : Int))
/- posthouse/recur.instants -/
abbrev R_recur_instants : Type := (Int × Int × Int × Int × Int × Int × Int) × (Int × Int × Int × Int × Bool × (List Int) × (List Int) × (List Int)) × ((List UInt8) × Int × Int × (Int × Int × Int × Int) × Int × Int × Int × Int)
def F_recur_instants (p0 : (List UInt8) × Int × Int × (Int × Int × Int × Int) × Int × Int × Int × Int) (p1 : Int × Int × Int × Int × Int × Int × Int) (p2 : Int × Int × Int × Int × Bool × (List Int) × (List Int) × (List Int)) : Option R_recur_instants :=
  some (p1, (p2, p0))
/- slices.Index[[]int,int] -/
def F_slices_Index_int_int_b0 (fu : Nat) (r0 : (List Int) → Int → Int → Int → Option Int) (s0 : List Int) (s1 : Int) (s7 : Int) (s8 : Int) : Option Int :=
  bif decide (s8 < s7) then
    (idx s0 s8).bind fun y1 =>
    bif s1 == y1 then
      some s8
    else
      r0 s0 s1 s7 (w64 (s8 + (1 : Int)))
  else
    some (-1 : Int)
def F_slices_Index_int_int_p0 (fu : Nat) : Nat → (List Int) → Int → Int → Int → Option Int
  | 0, _, _, _, _ => none
  | n + 1, s0, s1, s7, s8 => F_slices_Index_int_int_b0 fu (F_slices_Index_int_int_p0 fu n) s0 s1 s7 s8
def F_slices_Index_int_int (fu : Nat) (p0 : List Int) (p1 : Int) : Option Int :=
  F_slices_Index_int_int_p0 fu fu p0 p1 (List.length p0 : Int) (0 : Int)
/- slices.Contains[[]int,int] -/
def F_slices_Contains_int_int (fu : Nat) (p0 : List Int) (p1 : Int) : Option Bool :=
  (F_slices_Index_int_int fu p0 p1).bind fun x1 =>
  some (decide ((0 : Int) ≤ x1))
/- posthouse/recur.fits -/
def F_recur_fits_p0 (fu : Nat) (s3 : Int) (s11 : Int) (s14 : Bool) (m16 : Int × Int × Int × Int × Bool × (List Int) × (List Int) × (List Int)) : Option Bool :=
  bif s14 then
    bif decide (m16.2.1 ≠ 0) then
    some ((Int.tmod (w64 (Int.tdiv (w64 (s3 + s11)) (7 : Int))) m16.2.1) == (0 : Int))
    else none
  else
    some false
def F_recur_fits (fu : Nat) (p0 : Int × Int × Int × Int × Bool × (List Int) × (List Int) × (List Int)) (p1 : Int × Int × Int × Int × Int × Int × Int) (p2 : Int × Int × Int × Int × Int × Int × Int) (p3 : Int) : Option Bool :=
  (F_dates_Weekday fu p2).bind fun x1 =>
  (F_dates_Weekday fu p1).bind fun x2 =>
  bif p0.1 == (1 : Int) then
    bif decide (p0.2.1 ≠ 0) then
    some ((Int.tmod p3 p0.2.1) == (0 : Int))
    else none
  else
    bif p0.1 == (2 : Int) then
      bif decide ((0 : Int) < (List.length p0.2.2.2.2.2.1 : Int)) then
        (F_slices_Contains_int_int fu p0.2.2.2.2.2.1 x1.1).bind fun x3 =>
        F_recur_fits_p0 fu p3 x2.1 x3 p0
      else
        F_recur_fits_p0 fu p3 x2.1 (x1.1 == x2.1) p0
    else
      bif p0.1 == (3 : Int) then
        bif p2.2.2.1 == p1.2.2.1 then
          bif decide (p0.2.1 ≠ 0) then
          some ((Int.tmod (w64 ((w64 ((w64 ((12 : Int) * (w64 (p2.1 - p1.1)))) + p2.2.1)) - p1.2.1)) p0.2.1) == (0 : Int))
          else none
        else
          some false
      else
        bif p0.1 == (4 : Int) then
          bif p2.2.2.1 == p1.2.2.1 then
            bif p2.2.1 == p1.2.1 then
              bif decide (p0.2.1 ≠ 0) then
              some ((Int.tmod (w64 (p2.1 - p1.1)) p0.2.1) == (0 : Int))
              else none
            else
              some false
          else
            some false
        else
          some (p3 == (0 : Int))
/- cmp.isNaN[int] -/
def F_cmp_isNaN_int (p0 : Int) : Option Bool :=
  some (p0 != p0)
/- cmp.Less[int] -/
def F_cmp_Less_int (p0 : Int) (p1 : Int) : Option Bool :=
  (F_cmp_isNaN_int p0).bind fun x1 =>
  bif x1 then
    (F_cmp_isNaN_int p1).bind fun x2 =>
    bif !x2 then
      some true
    else
      some (decide (p0 < p1))
  else
    some (decide (p0 < p1))
/- slices.isNaN[int] -/
def F_slices_isNaN_int (p0 : Int) : Option Bool :=
  some (p0 != p0)
/- slices.BinarySearch[[]int,int] -/
def F_slices_BinarySearch_int_int_b0 (fu : Nat) (r0 : (List Int) → Int → Int → Int → Int → Option (Int × Bool)) (s0 : List Int) (s1 : Int) (s6 : Int) (s7 : Int) (s8 : Int) : Option (Int × Bool) :=
  bif decide (s7 < s8) then
    (idx s0 (w64 (Int.fdiv (IntKind.u64.wrap (w64 (s7 + s8))) (2 ^ min (1 : Int).toNat 64)))).bind fun y1 =>
    (F_cmp_Less_int y1 s1).bind fun x2 =>
    bif x2 then
      r0 s0 s1 s6 (w64 ((w64 (Int.fdiv (IntKind.u64.wrap (w64 (s7 + s8))) (2 ^ min (1 : Int).toNat 64))) + (1 : Int))) s8
    else
      r0 s0 s1 s6 s7 (w64 (Int.fdiv (IntKind.u64.wrap (w64 (s7 + s8))) (2 ^ min (1 : Int).toNat 64)))
  else
    bif decide (s7 < s6) then
      (idx s0 s7).bind fun y3 =>
      bif y3 == s1 then
        some (s7, true)
      else
        (idx s0 s7).bind fun y4 =>
        (F_slices_isNaN_int y4).bind fun x5 =>
        bif x5 then
          (F_slices_isNaN_int s1).bind fun x6 =>
          some (s7, x6)
        else
          some (s7, false)
    else
      some (s7, false)
def F_slices_BinarySearch_int_int_p0 (fu : Nat) : Nat → (List Int) → Int → Int → Int → Int → Option (Int × Bool)
  | 0, _, _, _, _, _ => none
  | n + 1, s0, s1, s6, s7, s8 => F_slices_BinarySearch_int_int_b0 fu (F_slices_BinarySearch_int_int_p0 fu n) s0 s1 s6 s7 s8
def F_slices_BinarySearch_int_int (fu : Nat) (p0 : List Int) (p1 : Int) : Option (Int × Bool) :=
  F_slices_BinarySearch_int_int_p0 fu fu p0 p1 (List.length p0 : Int) (0 : Int) (List.length p0 : Int)
/- posthouse/recur.Between (a round) -/
abbrev R_recur_Between_r0 : Type := (Int × Int × Int × Int × Bool × (List Int) × (List Int) × (List Int)) × (List Int)
def F_recur_Between_r0 (fu : Nat) (p0 : Int) (p1 : Int × Int × Int × Int × Bool × (List Int) × (List Int) × (List Int)) (p2 : List Int) : Option R_recur_Between_r0 :=
  (F_slices_BinarySearch_int_int fu p1.2.2.2.2.2.2.1 p0).bind fun x1 =>
  bif !x1.2 then
    bif decide (List.length (p2 ++ ([p0] : List Int)) ≤ rowMax) then
    some (p1, p2 ++ ([p0] : List Int))
    else none
  else
    some (p1, p2)
/- posthouse/recur.instants$1 -/
abbrev R_recur_instants_1 : Type := (Int × Int × Int × Int × Int × Int × Int) × (Int × Int × Int × Int × Bool × (List Int) × (List Int) × (List Int)) × ((List UInt8) × Int × Int × (Int × Int × Int × Int) × Int × Int × Int × Int) × (Int × Int × Int × Int × Bool × (List Int) × (List Int) × (List Int)) × (List Int)
def F_recur_instants_1_b0 (fu : Nat) (r0 : Int → Int → Int → (Int × Int × Int × Int × Int × Int × Int) → (Int × Int × Int × Int × Bool × (List Int) × (List Int) × (List Int)) → ((List UInt8) × Int × Int × (Int × Int × Int × Int) × Int × Int × Int × Int) → (Int × Int × Int × Int × Bool × (List Int) × (List Int) × (List Int)) → (List Int) → Option R_recur_instants_1) (s5 : Int) (s7 : Int) (s8 : Int) (m1 : Int × Int × Int × Int × Int × Int × Int) (m2 : Int × Int × Int × Int × Bool × (List Int) × (List Int) × (List Int)) (m3 : (List UInt8) × Int × Int × (Int × Int × Int × Int) × Int × Int × Int × Int) (m4 : Int × Int × Int × Int × Bool × (List Int) × (List Int) × (List Int)) (m16 : List Int) : Option R_recur_instants_1 :=
  bif decide (s8 ≤ (1500 : Int)) then
    (F_dates_Civil fu (w64 (s5 + (w64 (s8 * (86400 : Int))))) (0 : Int)).bind fun x1 =>
    (F_recur_fits fu m2 m1 x1.1 s8).bind fun x2 =>
    bif !x2 then
      r0 s5 s7 (w64 (s8 + (1 : Int))) m1 m2 m3 m4 m16
    else
      (F_zones_Instants fu m3 x1.1).bind fun x3 =>
      bif (List.length x3.2 : Int) == (0 : Int) then
        r0 s5 s7 (w64 (s8 + (1 : Int))) m1 m2 m3 m4 m16
      else
        bif m2.2.2.2.2.1 then
          bif decide (0 ≤ (0 : Int) ∧ (0 : Int).toNat < List.length x3.2) then
          (x3.2[(0 : Int).toNat]?).bind fun y4 =>
          bif decide (m2.2.2.2.1 < y4) then
            some (m1, (m2, (m3, (m4, m16))))
          else
            bif decide (0 ≤ (0 : Int) ∧ (0 : Int).toNat < List.length x3.2) then
            (x3.2[(0 : Int).toNat]?).bind fun y5 =>
            (F_recur_Between_r0 fu y5 m4 m16).bind fun x6 =>
            bif (w64 (s7 + (1 : Int))) == m2.2.2.1 then
              some (m1, (m2, (m3, x6)))
            else
              r0 s5 (w64 (s7 + (1 : Int))) (w64 (s8 + (1 : Int))) m1 m2 m3 x6.1 x6.2
            else none
          else none
        else
          bif decide (0 ≤ (0 : Int) ∧ (0 : Int).toNat < List.length x3.2) then
          (x3.2[(0 : Int).toNat]?).bind fun y7 =>
          (F_recur_Between_r0 fu y7 m4 m16).bind fun x8 =>
          bif (w64 (s7 + (1 : Int))) == m2.2.2.1 then
            some (m1, (m2, (m3, x8)))
          else
            r0 s5 (w64 (s7 + (1 : Int))) (w64 (s8 + (1 : Int))) m1 m2 m3 x8.1 x8.2
          else none
  else
    some (m1, (m2, (m3, (m4, m16))))
def F_recur_instants_1_p0 (fu : Nat) : Nat → Int → Int → Int → (Int × Int × Int × Int × Int × Int × Int) → (Int × Int × Int × Int × Bool × (List Int) × (List Int) × (List Int)) → ((List UInt8) × Int × Int × (Int × Int × Int × Int) × Int × Int × Int × Int) → (Int × Int × Int × Int × Bool × (List Int) × (List Int) × (List Int)) → (List Int) → Option R_recur_instants_1
  | 0, _, _, _, _, _, _, _, _ => none
  | n + 1, s5, s7, s8, m1, m2, m3, m4, m16 => F_recur_instants_1_b0 fu (F_recur_instants_1_p0 fu n) s5 s7 s8 m1 m2 m3 m4 m16
def F_recur_instants_1 (fu : Nat) (p0 : Int × Int × Int × Int × Int × Int × Int) (p1 : Int × Int × Int × Int × Bool × (List Int) × (List Int) × (List Int)) (p2 : (List UInt8) × Int × Int × (Int × Int × Int × Int) × Int × Int × Int × Int) (p3 : Int × Int × Int × Int × Bool × (List Int) × (List Int) × (List Int)) (p4 : List Int) : Option R_recur_instants_1 :=
  (F_dates_Instant fu p0).bind fun x1 =>
  F_recur_instants_1_p0 fu fu x1.1 (0 : Int) (0 : Int) p0 p1 p2 p3 p4
/- posthouse/recur.Between$1 -/
def F_recur_Between_1 (p0 : Int) (p1 : Int) (p2 : Int) : Option (Bool × Int × Int) :=
  bif decide (p0 < p1) then
    some (true, (p1, p2))
  else
    some (decide (p2 < p0), (p1, p2))
/- slices.IndexFunc[[]int,int] -/
def F_slices_IndexFunc_int_int_b0 (fu : Nat) (r0 : Int → Int → (List Int) → Int → Int → Option (Int × (List Int) × Int × Int)) (s7 : Int) (s8 : Int) (m0 : List Int) (m1 : Int) (m2 : Int) : Option (Int × (List Int) × Int × Int) :=
  bif decide (s8 < s7) then
    bif decide (0 ≤ s8 ∧ s8.toNat < List.length m0) then
    (m0[s8.toNat]?).bind fun y1 =>
    (F_recur_Between_1 y1 m1 m2).bind fun x2 =>
    bif x2.1 then
      some (s8, (m0, x2.2))
    else
      r0 s7 (w64 (s8 + (1 : Int))) m0 x2.2.1 x2.2.2
    else none
  else
    some ((-1 : Int), (m0, (m1, m2)))
def F_slices_IndexFunc_int_int_p0 (fu : Nat) : Nat → Int → Int → (List Int) → Int → Int → Option (Int × (List Int) × Int × Int)
  | 0, _, _, _, _, _ => none
  | n + 1, s7, s8, m0, m1, m2 => F_slices_IndexFunc_int_int_b0 fu (F_slices_IndexFunc_int_int_p0 fu n) s7 s8 m0 m1 m2
def F_slices_IndexFunc_int_int (fu : Nat) (p0 : List Int) (p1 : Int) (p2 : Int) : Option (Int × (List Int) × Int × Int) :=
  F_slices_IndexFunc_int_int_p0 fu fu (List.length p0 : Int) (0 : Int) p0 p1 p2
/- slices.DeleteFunc[[]int,int] -/
def F_slices_DeleteFunc_int_int_b0 (fu : Nat) (r0 : Int → Int → Int → Int → (List Int) → Option (Int × Int × (List Int))) (s5 : Int) (s6 : Int) (m1 : Int) (m2 : Int) (m16 : List Int) : Option (Int × Int × (List Int)) :=
  bif decide (s6 < (List.length m16 : Int)) then
    bif decide (0 ≤ s6 ∧ s6.toNat < List.length m16) then
    (m16[s6.toNat]?).bind fun y1 =>
    (F_recur_Between_1 y1 m1 m2).bind fun x2 =>
    bif !x2.1 then
      bif decide (0 ≤ s5 ∧ s5.toNat < List.length m16) then
      (m16[s5.toNat]?).bind fun y3 =>
      r0 (w64 (s5 + (1 : Int))) (w64 (s6 + (1 : Int))) x2.2.1 x2.2.2 (List.set m16 s5.toNat y1)
      else none
    else
      r0 s5 (w64 (s6 + (1 : Int))) x2.2.1 x2.2.2 m16
    else none
  else
    bif decide (0 ≤ s5 ∧ s5.toNat < List.length m16) then
    bif decide (0 ≤ s5 ∧ s5 ≤ (List.length (List.take s5.toNat m16 ++ List.replicate (List.length m16 - s5.toNat) (0 : Int)) : Int)) then
    some (m1, (m2, List.take s5.toNat (List.take s5.toNat m16 ++ List.replicate (List.length m16 - s5.toNat) (0 : Int))))
    else none
    else none
def F_slices_DeleteFunc_int_int_p0 (fu : Nat) : Nat → Int → Int → Int → Int → (List Int) → Option (Int × Int × (List Int))
  | 0, _, _, _, _, _ => none
  | n + 1, s5, s6, m1, m2, m16 => F_slices_DeleteFunc_int_int_b0 fu (F_slices_DeleteFunc_int_int_p0 fu n) s5 s6 m1 m2 m16
def F_slices_DeleteFunc_int_int (fu : Nat) (p0 : List Int) (p1 : Int) (p2 : Int) : Option (Int × Int × (List Int)) :=
  (F_slices_IndexFunc_int_int fu p0 p1 p2).bind fun x1 =>
  bif x1.1 == (-1 : Int) then
    some (x1.2.2.1, (x1.2.2.2, x1.2.1))
  else
    F_slices_DeleteFunc_int_int_p0 fu fu x1.1 (w64 (x1.1 + (1 : Int))) x1.2.2.1 x1.2.2.2 x1.2.1
/- posthouse/recur.Between -/
def F_recur_Between_p1 (fu : Nat) (m16 : (List UInt8) × Int × Int × (Int × Int × Int × Int) × Int × Int × Int × Int) (m17 : Int × Int × Int × Int × Int × Int × Int) (m18 : Int × Int × Int × Int × Bool × (List Int) × (List Int) × (List Int)) (m19 : Int) (m20 : Int) (m21 : Int × Int) : Option ((Int × Int) × (List Int)) :=
  (F_recur_instants m16 m17 m18).bind fun x1 =>
  (F_recur_instants_1 fu x1.1 x1.2.1 x1.2.2 m18 []).bind fun x2 =>
  bif decide (List.length (x2.2.2.2.2 ++ x2.2.2.2.1.2.2.2.2.2.2.2) ≤ rowMax) then
  (F_slices_DeleteFunc_int_int fu (x2.2.2.2.2 ++ x2.2.2.2.1.2.2.2.2.2.2.2) m19 m20).bind fun x3 =>
  (F_slices_Sort x3.2.2).bind fun x4 =>
  (F_slices_Compact x4).bind fun x5 =>
  (F_basic_None).bind fun x6 =>
  some (x6, x5)
  else none
def F_recur_Between_p0 (fu : Nat) (s60 : Bool) (m16 : (List UInt8) × Int × Int × (Int × Int × Int × Int) × Int × Int × Int × Int) (m17 : Int × Int × Int × Int × Int × Int × Int) (m18 : Int × Int × Int × Int × Bool × (List Int) × (List Int) × (List Int)) (m19 : Int) (m20 : Int) (m21 : Int × Int) : Option ((Int × Int) × (List Int)) :=
  bif s60 then
    (F_basic_Fault (3 : Int) (-12 : Int)).bind fun x1 =>
    some (x1, [])
  else
    F_recur_Between_p1 fu m16 m17 m18 m19 m20 m21
def F_recur_Between (fu : Nat) (p0 : (List UInt8) × Int × Int × (Int × Int × Int × Int) × Int × Int × Int × Int) (p1 : Int × Int × Int × Int × Int × Int × Int) (p2 : Int × Int × Int × Int × Bool × (List Int) × (List Int) × (List Int)) (p3 : Int) (p4 : Int) : Option ((Int × Int) × (List Int)) :=
  (F_zones_Validate fu p0).bind fun x1 =>
  (F_basic_Failed x1).bind fun x2 =>
  bif x2 then
    (F_basic_Fault x1.1 (-10 : Int)).bind fun x3 =>
    some (x3, [])
  else
    (F_zones_Instants fu p0 p1).bind fun x4 =>
    (F_basic_Failed x4.1).bind fun x5 =>
    bif x5 then
      (F_basic_Fault x4.1.1 (-11 : Int)).bind fun x6 =>
      some (x6, [])
    else
      bif decide ((3980 : Int) < p1.1) then
        (F_basic_Fault (3 : Int) (-11 : Int)).bind fun x7 =>
        some (x7, [])
      else
        (F_recur_Validate fu p2).bind fun x8 =>
        (F_basic_Failed x8).bind fun x9 =>
        bif x9 then
          some (x8, [])
        else
          (F_basic_Time p3).bind fun x10 =>
          bif !x10 then
            F_recur_Between_p0 fu true p0 p1 p2 p3 p4 ((0 : Int), (0 : Int))
          else
            (F_basic_Time p4).bind fun x11 =>
            bif !x11 then
              F_recur_Between_p0 fu true p0 p1 p2 p3 p4 ((0 : Int), (0 : Int))
            else
              F_recur_Between_p0 fu (decide (p4 < p3)) p0 p1 p2 p3 p4 ((0 : Int), (0 : Int))
/- posthouse/posthouselaw2.recurExample -/
def F_W2_recurExample (fu : Nat) : Option Bool :=
  (F_W2_thrice).bind fun x1 =>
  (F_recur_Between fu (([117] : List UInt8), ((0 : Int), ((0 : Int), (((0 : Int), ((0 : Int), ((0 : Int), (0 : Int)))), ((0 : Int), ((0 : Int), ((0 : Int), (0 : Int)))))))) ((1970 : Int), ((1 : Int), ((1 : Int), ((0 : Int), ((0 : Int), ((0 : Int), (0 : Int))))))) x1 (-1000 : Int) (1000000 : Int)).bind fun x2 =>
  bif x2.1.1 == (0 : Int) then
    (F_R1_Ints fu x2.2 ([(0 : Int), (86400 : Int), (172800 : Int)] : List Int)).bind fun x3 =>
    some x3
  else
    some false
/- posthouse/posthouseref2.instantsCode -/
def F_R2_instantsCode_b0 (fu : Nat) (r0 : (List Int) → Int → Option Int) (s0 : List Int) (s3 : Int) : Option Int :=
  bif decide (s3 < (List.length s0 : Int)) then
    (idx s0 s3).bind fun y1 =>
    (F_R1_In y1 (-68719476736 : Int) (68719476736 : Int)).bind fun x2 =>
    bif !x2 then
      some (3 : Int)
    else
      bif decide ((0 : Int) < s3) then
        (idx s0 s3).bind fun y3 =>
        (idx s0 (w64 (s3 - (1 : Int)))).bind fun y4 =>
        bif decide (y3 ≤ y4) then
          some (19 : Int)
        else
          r0 s0 (w64 (s3 + (1 : Int)))
      else
        r0 s0 (w64 (s3 + (1 : Int)))
  else
    some (0 : Int)
def F_R2_instantsCode_p0 (fu : Nat) : Nat → (List Int) → Int → Option Int
  | 0, _, _ => none
  | n + 1, s0, s3 => F_R2_instantsCode_b0 fu (F_R2_instantsCode_p0 fu n) s0 s3
def F_R2_instantsCode (fu : Nat) (p0 : List Int) : Option Int :=
  bif decide ((300 : Int) < (List.length p0 : Int)) then
    some (2 : Int)
  else
    F_R2_instantsCode_p0 fu fu p0 (0 : Int)
/- posthouse/posthouseref2.RuleFault -/
def F_R2_RuleFault_p8 (fu : Nat) (r6 : Int → (Int × Int × Int × Int × Bool × (List Int) × (List Int) × (List Int)) → (Int × Int) → Option ((Int × Int))) (s3 : Int) (m16 : Int × Int × Int × Int × Bool × (List Int) × (List Int) × (List Int)) (m17 : Int × Int) : Option ((Int × Int)) :=
  r6 (w64 (s3 + (1 : Int))) m16 m17
def F_R2_RuleFault_p7 (fu : Nat) (r6 : Int → (Int × Int × Int × Int × Bool × (List Int) × (List Int) × (List Int)) → (Int × Int) → Option ((Int × Int))) (s3 : Int) (s77 : Bool) (m16 : Int × Int × Int × Int × Bool × (List Int) × (List Int) × (List Int)) (m17 : Int × Int) : Option ((Int × Int)) :=
  bif s77 then
    (F_R1_At (19 : Int) (-7 : Int)).bind fun x1 =>
    some x1
  else
    F_R2_RuleFault_p8 fu r6 s3 m16 m17
def F_R2_RuleFault_b6 (fu : Nat) (r6 : Int → (Int × Int × Int × Int × Bool × (List Int) × (List Int) × (List Int)) → (Int × Int) → Option ((Int × Int))) (s3 : Int) (m16 : Int × Int × Int × Int × Bool × (List Int) × (List Int) × (List Int)) (m17 : Int × Int) : Option ((Int × Int)) :=
  bif decide (s3 < (List.length m16.2.2.2.2.2.1 : Int)) then
    (idx m16.2.2.2.2.2.1 s3).bind fun y1 =>
    (F_R1_In y1 (0 : Int) (6 : Int)).bind fun x2 =>
    bif !x2 then
      (F_R1_At (3 : Int) (-7 : Int)).bind fun x3 =>
      some x3
    else
      bif decide ((0 : Int) < s3) then
        (idx m16.2.2.2.2.2.1 s3).bind fun y4 =>
        (idx m16.2.2.2.2.2.1 (w64 (s3 - (1 : Int)))).bind fun y5 =>
        F_R2_RuleFault_p7 fu r6 s3 (decide (y4 ≤ y5)) m16 m17
      else
        F_R2_RuleFault_p7 fu r6 s3 false m16 m17
  else
    (F_R2_instantsCode fu m16.2.2.2.2.2.2.1).bind fun x6 =>
    bif x6 != (0 : Int) then
      (F_R2_instantsCode fu m16.2.2.2.2.2.2.1).bind fun x7 =>
      (F_R1_At x7 (-8 : Int)).bind fun x8 =>
      some x8
    else
      (F_R2_instantsCode fu m16.2.2.2.2.2.2.2).bind fun x9 =>
      bif x9 != (0 : Int) then
        (F_R2_instantsCode fu m16.2.2.2.2.2.2.2).bind fun x10 =>
        (F_R1_At x10 (-9 : Int)).bind fun x11 =>
        some x11
      else
        some ((0 : Int), (0 : Int))
def F_R2_RuleFault_p6 (fu : Nat) : Nat → Int → (Int × Int × Int × Int × Bool × (List Int) × (List Int) × (List Int)) → (Int × Int) → Option ((Int × Int))
  | 0, _, _, _ => none
  | n + 1, s3, m16, m17 => F_R2_RuleFault_b6 fu (F_R2_RuleFault_p6 fu n) s3 m16 m17
def F_R2_RuleFault_p5 (fu : Nat) (m16 : Int × Int × Int × Int × Bool × (List Int) × (List Int) × (List Int)) (m17 : Int × Int) : Option ((Int × Int)) :=
  F_R2_RuleFault_p6 fu fu (0 : Int) m16 m17
def F_R2_RuleFault_p4 (fu : Nat) (s45 : Bool) (m16 : Int × Int × Int × Int × Bool × (List Int) × (List Int) × (List Int)) (m17 : Int × Int) : Option ((Int × Int)) :=
  bif s45 then
    (F_R1_At (5 : Int) (-7 : Int)).bind fun x1 =>
    some x1
  else
    F_R2_RuleFault_p5 fu m16 m17
def F_R2_RuleFault_p3 (fu : Nat) (m16 : Int × Int × Int × Int × Bool × (List Int) × (List Int) × (List Int)) (m17 : Int × Int) : Option ((Int × Int)) :=
  bif decide ((0 : Int) < (List.length m16.2.2.2.2.2.1 : Int)) then
    F_R2_RuleFault_p4 fu (m16.1 != (2 : Int)) m16 m17
  else
    F_R2_RuleFault_p4 fu false m16 m17
def F_R2_RuleFault_p2 (fu : Nat) (s35 : Bool) (m16 : Int × Int × Int × Int × Bool × (List Int) × (List Int) × (List Int)) (m17 : Int × Int) : Option ((Int × Int)) :=
  bif s35 then
    (F_R1_At (5 : Int) (-6 : Int)).bind fun x1 =>
    some x1
  else
    F_R2_RuleFault_p3 fu m16 m17
def F_R2_RuleFault_p1 (fu : Nat) (m16 : Int × Int × Int × Int × Bool × (List Int) × (List Int) × (List Int)) (m17 : Int × Int) : Option ((Int × Int)) :=
  bif !m16.2.2.2.2.1 then
    F_R2_RuleFault_p2 fu (m16.2.2.2.1 != (0 : Int)) m16 m17
  else
    F_R2_RuleFault_p2 fu false m16 m17
def F_R2_RuleFault_p0 (fu : Nat) (s26 : Bool) (m16 : Int × Int × Int × Int × Bool × (List Int) × (List Int) × (List Int)) (m17 : Int × Int) : Option ((Int × Int)) :=
  bif s26 then
    (F_R1_At (3 : Int) (-6 : Int)).bind fun x1 =>
    some x1
  else
    F_R2_RuleFault_p1 fu m16 m17
def F_R2_RuleFault (fu : Nat) (p0 : Int × Int × Int × Int × Bool × (List Int) × (List Int) × (List Int)) : Option ((Int × Int)) :=
  (F_R1_In p0.1 (0 : Int) (4 : Int)).bind fun x1 =>
  bif !x1 then
    (F_R1_At (4 : Int) (-3 : Int)).bind fun x2 =>
    some x2
  else
    (F_R1_In p0.2.1 (1 : Int) (100 : Int)).bind fun x3 =>
    bif !x3 then
      (F_R1_At (3 : Int) (-4 : Int)).bind fun x4 =>
      some x4
    else
      (F_R1_In p0.2.2.1 (0 : Int) (1500 : Int)).bind fun x5 =>
      bif !x5 then
        (F_R1_At (3 : Int) (-5 : Int)).bind fun x6 =>
        some x6
      else
        bif p0.2.2.2.2.1 then
          (F_R1_In p0.2.2.2.1 (-68719476736 : Int) (68719476736 : Int)).bind fun x7 =>
          F_R2_RuleFault_p0 fu (!x7) p0 ((0 : Int), (0 : Int))
        else
          F_R2_RuleFault_p0 fu false p0 ((0 : Int), (0 : Int))
/- posthouse/posthouseref2.BetweenFault -/
def F_R2_BetweenFault (fu : Nat) (p0 : (List UInt8) × Int × Int × (Int × Int × Int × Int) × Int × Int × Int × Int) (p1 : Int × Int × Int × Int × Int × Int × Int) (p2 : Int × Int × Int × Int × Bool × (List Int) × (List Int) × (List Int)) (p3 : Int) (p4 : Int) : Option ((Int × Int)) :=
  (F_R2_ZoneFault fu p0).bind fun x1 =>
  bif x1.1 != (0 : Int) then
    (F_R2_ZoneFault fu p0).bind fun x2 =>
    (F_R1_At x2.1 (-10 : Int)).bind fun x3 =>
    some x3
  else
    (F_R2_LocalFault p1).bind fun x4 =>
    bif x4.1 != (0 : Int) then
      (F_R2_LocalFault p1).bind fun x5 =>
      (F_R1_At x5.1 (-11 : Int)).bind fun x6 =>
      some x6
    else
      bif decide ((3980 : Int) < p1.1) then
        (F_R1_At (3 : Int) (-11 : Int)).bind fun x7 =>
        some x7
      else
        (F_R2_RuleFault fu p2).bind fun x8 =>
        bif x8.1 == (0 : Int) then
          (F_R1_In p3 (-68719476736 : Int) (68719476736 : Int)).bind fun x9 =>
          bif !x9 then
            (F_R1_At (3 : Int) (-12 : Int)).bind fun x10 =>
            some x10
          else
            (F_R1_In p4 p3 (68719476736 : Int)).bind fun x11 =>
            bif !x11 then
              (F_R1_At (3 : Int) (-12 : Int)).bind fun x12 =>
              some x12
            else
              some x8
        else
          some x8
/- posthouse/posthouseref2.OnDay -/
def F_R2_OnDay_p0 (fu : Nat) (s13 : Int) (s15 : Bool) (m16 : Int × Int × Int × Int × Bool × (List Int) × (List Int) × (List Int)) : Option Bool :=
  bif s15 then
    bif decide (m16.2.1 ≠ 0) then
    some ((Int.tmod s13 m16.2.1) == (0 : Int))
    else none
  else
    some false
def F_R2_OnDay (fu : Nat) (p0 : Int × Int × Int × Int × Int × Int × Int) (p1 : Int × Int × Int × Int × Bool × (List Int) × (List Int) × (List Int)) (p2 : Int) (p3 : Int) : Option Bool :=
  (F_R1_DateOf fu (w64 ((86400 : Int) * p3)) (0 : Int)).bind fun x1 =>
  bif p1.1 == (0 : Int) then
    some (p3 == p2)
  else
    bif p1.1 == (1 : Int) then
      bif decide (p1.2.1 ≠ 0) then
      some ((Int.tmod (w64 (p3 - p2)) p1.2.1) == (0 : Int))
      else none
    else
      bif p1.1 == (2 : Int) then
        (F_R1_WeekdayOf fu p0.1 p0.2.1 p0.2.2.1).bind fun x2 =>
        (F_R2_Has fu p1.2.2.2.2.2.1 (Int.tmod (w64 ((w64 (p3 - p2)) + x2)) (7 : Int))).bind fun x3 =>
        bif x3 then
          F_R2_OnDay_p0 fu (w64 (Int.tdiv (w64 ((w64 (p3 - p2)) + x2)) (7 : Int))) true p1
        else
          bif (List.length p1.2.2.2.2.2.1 : Int) == (0 : Int) then
            F_R2_OnDay_p0 fu (w64 (Int.tdiv (w64 ((w64 (p3 - p2)) + x2)) (7 : Int))) ((Int.tmod (w64 ((w64 (p3 - p2)) + x2)) (7 : Int)) == x2) p1
          else
            F_R2_OnDay_p0 fu (w64 (Int.tdiv (w64 ((w64 (p3 - p2)) + x2)) (7 : Int))) false p1
      else
        bif p1.1 == (3 : Int) then
          bif x1.1.2.2.1 == p0.2.2.1 then
            bif decide (p1.2.1 ≠ 0) then
            some ((Int.tmod (w64 ((w64 ((w64 ((12 : Int) * (w64 (x1.1.1 - p0.1)))) + x1.1.2.1)) - p0.2.1)) p1.2.1) == (0 : Int))
            else none
          else
            some false
        else
          bif x1.1.2.2.1 == p0.2.2.1 then
            bif decide (w64 ((12 : Int) * p1.2.1) ≠ 0) then
            some ((Int.tmod (w64 ((w64 ((w64 ((12 : Int) * (w64 (x1.1.1 - p0.1)))) + x1.1.2.1)) - p0.2.1)) (w64 ((12 : Int) * p1.2.1))) == (0 : Int))
            else none
          else
            some false
/- posthouse/posthouseref2.RegularOf -/
def F_R2_RegularOf_p2 (fu : Nat) (r0 : Int → Int → ((List UInt8) × Int × Int × (Int × Int × Int × Int) × Int × Int × Int × Int) → (Int × Int × Int × Int × Int × Int × Int) → (Int × Int × Int × Int × Bool × (List Int) × (List Int) × (List Int)) → (List Int) → Option ((List Int))) (s7 : Int) (s9 : Int) (m16 : (List UInt8) × Int × Int × (Int × Int × Int × Int) × Int × Int × Int × Int) (m17 : Int × Int × Int × Int × Int × Int × Int) (m18 : Int × Int × Int × Int × Bool × (List Int) × (List Int) × (List Int)) (m19 : List Int) (m20 : List Int) : Option ((List Int)) :=
  bif decide (0 ≤ (0 : Int) ∧ (0 : Int).toNat < List.length m19) then
  (m19[(0 : Int).toNat]?).bind fun y1 =>
  bif decide (List.length (m20 ++ ([y1] : List Int)) ≤ rowMax) then
  bif decide ((0 : Int) < m18.2.2.1) then
    bif (List.length (m20 ++ ([y1] : List Int)) : Int) == m18.2.2.1 then
      some (m20 ++ ([y1] : List Int))
    else
      r0 s7 (w64 (s9 + (1 : Int))) m16 m17 m18 (m20 ++ ([y1] : List Int))
  else
    r0 s7 (w64 (s9 + (1 : Int))) m16 m17 m18 (m20 ++ ([y1] : List Int))
  else none
  else none
def F_R2_RegularOf_p1 (fu : Nat) (r0 : Int → Int → ((List UInt8) × Int × Int × (Int × Int × Int × Int) × Int × Int × Int × Int) → (Int × Int × Int × Int × Int × Int × Int) → (Int × Int × Int × Int × Bool × (List Int) × (List Int) × (List Int)) → (List Int) → Option ((List Int))) (s7 : Int) (s9 : Int) (s63 : Bool) (m16 : (List UInt8) × Int × Int × (Int × Int × Int × Int) × Int × Int × Int × Int) (m17 : Int × Int × Int × Int × Int × Int × Int) (m18 : Int × Int × Int × Int × Bool × (List Int) × (List Int) × (List Int)) (m19 : List Int) (m20 : List Int) : Option ((List Int)) :=
  bif s63 then
    some m20
  else
    F_R2_RegularOf_p2 fu r0 s7 s9 m16 m17 m18 m19 m20
def F_R2_RegularOf_b0 (fu : Nat) (r0 : Int → Int → ((List UInt8) × Int × Int × (Int × Int × Int × Int) × Int × Int × Int × Int) → (Int × Int × Int × Int × Int × Int × Int) → (Int × Int × Int × Int × Bool × (List Int) × (List Int) × (List Int)) → (List Int) → Option ((List Int))) (s7 : Int) (s9 : Int) (m16 : (List UInt8) × Int × Int × (Int × Int × Int × Int) × Int × Int × Int × Int) (m17 : Int × Int × Int × Int × Int × Int × Int) (m18 : Int × Int × Int × Int × Bool × (List Int) × (List Int) × (List Int)) (m19 : List Int) : Option ((List Int)) :=
  bif decide (s9 ≤ (w64 (s7 + (1500 : Int)))) then
    (F_R2_OnDay fu m17 m18 s7 s9).bind fun x1 =>
    bif !x1 then
      r0 s7 (w64 (s9 + (1 : Int))) m16 m17 m18 m19
    else
      (F_R1_DateOf fu (w64 ((86400 : Int) * s9)) (0 : Int)).bind fun x2 =>
      (F_R2_InstantsOf fu m16 (x2.1.1, (x2.1.2.1, (x2.1.2.2.1, (m17.2.2.2.1, (m17.2.2.2.2.1, (m17.2.2.2.2.2.1, x2.1.2.2.2.2.2.2))))))).bind fun x3 =>
      bif (List.length x3 : Int) == (0 : Int) then
        r0 s7 (w64 (s9 + (1 : Int))) m16 m17 m18 m19
      else
        bif m18.2.2.2.2.1 then
          bif decide (0 ≤ (0 : Int) ∧ (0 : Int).toNat < List.length x3) then
          (x3[(0 : Int).toNat]?).bind fun y4 =>
          F_R2_RegularOf_p1 fu r0 s7 s9 (decide (m18.2.2.2.1 < y4)) m16 m17 m18 x3 m19
          else none
        else
          F_R2_RegularOf_p1 fu r0 s7 s9 false m16 m17 m18 x3 m19
  else
    some m19
def F_R2_RegularOf_p0 (fu : Nat) : Nat → Int → Int → ((List UInt8) × Int × Int × (Int × Int × Int × Int) × Int × Int × Int × Int) → (Int × Int × Int × Int × Int × Int × Int) → (Int × Int × Int × Int × Bool × (List Int) × (List Int) × (List Int)) → (List Int) → Option ((List Int))
  | 0, _, _, _, _, _, _ => none
  | n + 1, s7, s9, m16, m17, m18, m19 => F_R2_RegularOf_b0 fu (F_R2_RegularOf_p0 fu n) s7 s9 m16 m17 m18 m19
def F_R2_RegularOf (fu : Nat) (p0 : (List UInt8) × Int × Int × (Int × Int × Int × Int) × Int × Int × Int × Int) (p1 : Int × Int × Int × Int × Int × Int × Int) (p2 : Int × Int × Int × Int × Bool × (List Int) × (List Int) × (List Int)) : Option ((List Int)) :=
  (F_R1_DayNumber fu p1.1 p1.2.1 p1.2.2.1).bind fun x1 =>
  F_R2_RegularOf_p0 fu fu x1 x1 p0 p1 p2 []
/- posthouse/posthouseref2.insert -/
def F_R2_insert_p2 (fu : Nat) (r0 : (List Int) → Int → Bool → Int → (List Int) → Option ((List Int))) (s0 : List Int) (s1 : Int) (s6 : Bool) (s7 : Int) (m16 : List Int) : Option ((List Int)) :=
  (idx s0 s7).bind fun y1 =>
  bif decide (List.length (m16 ++ ([y1] : List Int)) ≤ rowMax) then
  r0 s0 s1 s6 (w64 (s7 + (1 : Int))) (m16 ++ ([y1] : List Int))
  else none
def F_R2_insert_p1 (fu : Nat) (r0 : (List Int) → Int → Bool → Int → (List Int) → Option ((List Int))) (s0 : List Int) (s1 : Int) (s6 : Bool) (s7 : Int) (s27 : Bool) (m16 : List Int) : Option ((List Int)) :=
  bif s27 then
    bif decide (List.length (m16 ++ ([s1] : List Int)) ≤ rowMax) then
    F_R2_insert_p2 fu r0 s0 s1 true s7 (m16 ++ ([s1] : List Int))
    else none
  else
    F_R2_insert_p2 fu r0 s0 s1 s6 s7 m16
def F_R2_insert_b0 (fu : Nat) (r0 : (List Int) → Int → Bool → Int → (List Int) → Option ((List Int))) (s0 : List Int) (s1 : Int) (s6 : Bool) (s7 : Int) (m16 : List Int) : Option ((List Int)) :=
  bif decide (s7 < (List.length s0 : Int)) then
    bif !s6 then
      (idx s0 s7).bind fun y1 =>
      F_R2_insert_p1 fu r0 s0 s1 s6 s7 (decide (s1 < y1)) m16
    else
      F_R2_insert_p1 fu r0 s0 s1 s6 s7 false m16
  else
    bif !s6 then
      bif decide (List.length (m16 ++ ([s1] : List Int)) ≤ rowMax) then
      some (m16 ++ ([s1] : List Int))
      else none
    else
      some m16
def F_R2_insert_p0 (fu : Nat) : Nat → (List Int) → Int → Bool → Int → (List Int) → Option ((List Int))
  | 0, _, _, _, _, _ => none
  | n + 1, s0, s1, s6, s7, m16 => F_R2_insert_b0 fu (F_R2_insert_p0 fu n) s0 s1 s6 s7 m16
def F_R2_insert (fu : Nat) (p0 : List Int) (p1 : Int) : Option ((List Int)) :=
  (F_R2_Has fu p0 p1).bind fun x1 =>
  bif x1 then
    some p0
  else
    F_R2_insert_p0 fu fu p0 p1 false (0 : Int) []
/- posthouse/posthouseref2.BetweenOf -/
def F_R2_BetweenOf_p3 (fu : Nat) (r0 : Int → Int → Int → (Int × Int × Int × Int × Bool × (List Int) × (List Int) × (List Int)) → (List Int) → (List Int) → Option ((List Int))) (s3 : Int) (s4 : Int) (s13 : Int) (m16 : Int × Int × Int × Int × Bool × (List Int) × (List Int) × (List Int)) (m17 : List Int) (m18 : List Int) : Option ((List Int)) :=
  r0 s3 s4 (w64 (s13 + (1 : Int))) m16 m17 m18
def F_R2_BetweenOf_p1 (fu : Nat) (r0 : Int → Int → Int → (Int × Int × Int × Int × Bool × (List Int) × (List Int) × (List Int)) → (List Int) → (List Int) → Option ((List Int))) (s3 : Int) (s4 : Int) (s13 : Int) (s41 : Bool) (m16 : Int × Int × Int × Int × Bool × (List Int) × (List Int) × (List Int)) (m17 : List Int) (m18 : List Int) : Option ((List Int)) :=
  bif s41 then
    bif decide (0 ≤ s13 ∧ s13.toNat < List.length m17) then
    (m17[s13.toNat]?).bind fun y1 =>
    bif decide (List.length (m18 ++ ([y1] : List Int)) ≤ rowMax) then
    F_R2_BetweenOf_p3 fu r0 s3 s4 s13 m16 m17 (m18 ++ ([y1] : List Int))
    else none
    else none
  else
    F_R2_BetweenOf_p3 fu r0 s3 s4 s13 m16 m17 m18
def F_R2_BetweenOf_b2 (fu : Nat) (r2 : Int → Int → (List Int) → Int → (Int × Int × Int × Int × Bool × (List Int) × (List Int) × (List Int)) → Option ((List Int))) (s3 : Int) (s4 : Int) (s12 : List Int) (s14 : Int) (m16 : Int × Int × Int × Int × Bool × (List Int) × (List Int) × (List Int)) : Option ((List Int)) :=
  bif decide (s14 < (List.length m16.2.2.2.2.2.2.2 : Int)) then
    (idx m16.2.2.2.2.2.2.2 s14).bind fun y1 =>
    (F_R1_In y1 s3 s4).bind fun x2 =>
    bif x2 then
      (idx m16.2.2.2.2.2.2.2 s14).bind fun y3 =>
      (F_R2_insert fu s12 y3).bind fun x4 =>
      r2 s3 s4 x4 (w64 (s14 + (1 : Int))) m16
    else
      r2 s3 s4 s12 (w64 (s14 + (1 : Int))) m16
  else
    some s12
def F_R2_BetweenOf_p2 (fu : Nat) : Nat → Int → Int → (List Int) → Int → (Int × Int × Int × Int × Bool × (List Int) × (List Int) × (List Int)) → Option ((List Int))
  | 0, _, _, _, _, _ => none
  | n + 1, s3, s4, s12, s14, m16 => F_R2_BetweenOf_b2 fu (F_R2_BetweenOf_p2 fu n) s3 s4 s12 s14 m16
def F_R2_BetweenOf_b0 (fu : Nat) (r0 : Int → Int → Int → (Int × Int × Int × Int × Bool × (List Int) × (List Int) × (List Int)) → (List Int) → (List Int) → Option ((List Int))) (s3 : Int) (s4 : Int) (s13 : Int) (m16 : Int × Int × Int × Int × Bool × (List Int) × (List Int) × (List Int)) (m17 : List Int) (m18 : List Int) : Option ((List Int)) :=
  bif decide (s13 < (List.length m17 : Int)) then
    bif decide (0 ≤ s13 ∧ s13.toNat < List.length m17) then
    (m17[s13.toNat]?).bind fun y1 =>
    (F_R1_In y1 s3 s4).bind fun x2 =>
    bif x2 then
      bif decide (0 ≤ s13 ∧ s13.toNat < List.length m17) then
      (m17[s13.toNat]?).bind fun y3 =>
      (F_R2_Has fu m16.2.2.2.2.2.2.1 y3).bind fun x4 =>
      F_R2_BetweenOf_p1 fu r0 s3 s4 s13 (!x4) m16 m17 m18
      else none
    else
      F_R2_BetweenOf_p1 fu r0 s3 s4 s13 false m16 m17 m18
    else none
  else
    F_R2_BetweenOf_p2 fu fu s3 s4 m18 (0 : Int) m16
def F_R2_BetweenOf_p0 (fu : Nat) : Nat → Int → Int → Int → (Int × Int × Int × Int × Bool × (List Int) × (List Int) × (List Int)) → (List Int) → (List Int) → Option ((List Int))
  | 0, _, _, _, _, _, _ => none
  | n + 1, s3, s4, s13, m16, m17, m18 => F_R2_BetweenOf_b0 fu (F_R2_BetweenOf_p0 fu n) s3 s4 s13 m16 m17 m18
def F_R2_BetweenOf (fu : Nat) (p0 : (List UInt8) × Int × Int × (Int × Int × Int × Int) × Int × Int × Int × Int) (p1 : Int × Int × Int × Int × Int × Int × Int) (p2 : Int × Int × Int × Int × Bool × (List Int) × (List Int) × (List Int)) (p3 : Int) (p4 : Int) : Option ((List Int)) :=
  (F_R2_RegularOf fu p0 p1 p2).bind fun x1 =>
  F_R2_BetweenOf_p0 fu fu p3 p4 (0 : Int) p2 x1 []
/- posthouse/posthouselaw2.RecurBetweenMatchesSpec -/
def F_W2_RecurBetweenMatchesSpec_p1 (fu : Nat) (s3 : Int) (s4 : Int) (m16 : (List UInt8) × Int × Int × (Int × Int × Int × Int) × Int × Int × Int × Int) (m17 : Int × Int × Int × Int × Int × Int × Int) (m18 : Int × Int × Int × Int × Bool × (List Int) × (List Int) × (List Int)) : Option Bool :=
  (F_recur_Between fu m16 m17 m18 s3 s4).bind fun x1 =>
  (F_R2_BetweenFault fu m16 m17 m18 s3 s4).bind fun x2 =>
  bif x2.1 != (0 : Int) then
    bif ((x1.1.1 == x2.1) && ((x1.1.2 == x2.2) && true)) then
      some ((List.length x1.2 : Int) == (0 : Int))
    else
      some false
  else
    bif x1.1.1 == (0 : Int) then
      (F_R2_BetweenOf fu m16 m17 m18 s3 s4).bind fun x3 =>
      (F_R1_Ints fu x1.2 x3).bind fun x4 =>
      some x4
    else
      some false
def F_W2_RecurBetweenMatchesSpec_p0 (fu : Nat) (s3 : Int) (s4 : Int) (s22 : Bool) (m16 : (List UInt8) × Int × Int × (Int × Int × Int × Int) × Int × Int × Int × Int) (m17 : Int × Int × Int × Int × Int × Int × Int) (m18 : Int × Int × Int × Int × Bool × (List Int) × (List Int) × (List Int)) : Option Bool :=
  bif s22 then
    some false
  else
    F_W2_RecurBetweenMatchesSpec_p1 fu s3 s4 m16 m17 m18
def F_W2_RecurBetweenMatchesSpec (fu : Nat) (p0 : (List UInt8) × Int × Int × (Int × Int × Int × Int) × Int × Int × Int × Int) (p1 : Int × Int × Int × Int × Int × Int × Int) (p2 : Int × Int × Int × Int × Bool × (List Int) × (List Int) × (List Int)) (p3 : Int) (p4 : Int) : Option Bool :=
  (F_W2_recurExample fu).bind fun x1 =>
  bif !x1 then
    F_W2_RecurBetweenMatchesSpec_p0 fu p3 p4 true p0 p1 p2
  else
    (F_recur_Validate fu p2).bind fun x2 =>
    (F_R2_RuleFault fu p2).bind fun x3 =>
    F_W2_RecurBetweenMatchesSpec_p0 fu p3 p4 (!((x2.1 == x3.1) && ((x2.2 == x3.2) && true))) p0 p1 p2
/- posthouse/posthouselaw2.RecurRangesJoin -/
def F_W2_RecurRangesJoin_p1 (fu : Nat) (s3 : Int) (s4 : Int) (s5 : Int) (m16 : (List UInt8) × Int × Int × (Int × Int × Int × Int) × Int × Int × Int × Int) (m17 : Int × Int × Int × Int × Int × Int × Int) (m18 : Int × Int × Int × Int × Bool × (List Int) × (List Int) × (List Int)) (m19 : List Int) : Option Bool :=
  (F_recur_Between fu m16 m17 m18 s3 s4).bind fun x1 =>
  (F_recur_Between fu m16 m17 m18 (w64 (s4 + (1 : Int))) s5).bind fun x2 =>
  bif x1.1.1 == (0 : Int) then
    bif x2.1.1 == (0 : Int) then
      bif decide (List.length x1.2 ≤ rowMax) then
      bif decide (List.length (x1.2 ++ x2.2) ≤ rowMax) then
      (F_R1_Ints fu (x1.2 ++ x2.2) m19).bind fun x3 =>
      some x3
      else none
      else none
    else
      some false
  else
    some false
def F_W2_RecurRangesJoin_p0 (fu : Nat) (s3 : Int) (s4 : Int) (s5 : Int) (s42 : Bool) (m16 : (List UInt8) × Int × Int × (Int × Int × Int × Int) × Int × Int × Int × Int) (m17 : Int × Int × Int × Int × Int × Int × Int) (m18 : Int × Int × Int × Int × Bool × (List Int) × (List Int) × (List Int)) (m19 : List Int) (m20 : Int × Int) : Option Bool :=
  bif s42 then
    bif m20.1 == (0 : Int) then
      some true
    else
      some ((List.length m19 : Int) == (0 : Int))
  else
    F_W2_RecurRangesJoin_p1 fu s3 s4 s5 m16 m17 m18 m19
def F_W2_RecurRangesJoin (fu : Nat) (p0 : (List UInt8) × Int × Int × (Int × Int × Int × Int) × Int × Int × Int × Int) (p1 : Int × Int × Int × Int × Int × Int × Int) (p2 : Int × Int × Int × Int × Bool × (List Int) × (List Int) × (List Int)) (p3 : Int) (p4 : Int) (p5 : Int) : Option Bool :=
  (F_W2_recurExample fu).bind fun x1 =>
  bif !x1 then
    some false
  else
    (F_recur_Between fu p0 p1 p2 p3 p5).bind fun x2 =>
    bif x2.1.1 != (0 : Int) then
      F_W2_RecurRangesJoin_p0 fu p3 p4 p5 true p0 p1 p2 x2.2 x2.1
    else
      bif decide (p4 < p3) then
        F_W2_RecurRangesJoin_p0 fu p3 p4 p5 true p0 p1 p2 x2.2 x2.1
      else
        F_W2_RecurRangesJoin_p0 fu p3 p4 p5 (decide (p5 ≤ p4)) p0 p1 p2 x2.2 x2.1
/- posthouse/posthouselaw2.RecurLocalTime -/
def F_W2_RecurLocalTime_b0 (fu : Nat) (r0 : Int → ((List UInt8) × Int × Int × (Int × Int × Int × Int) × Int × Int × Int × Int) → (Int × Int × Int × Int × Int × Int × Int) → (Int × Int × Int × Int × Bool × (List Int) × (List Int) × (List Int)) → (List Int) → Option Bool) (s13 : Int) (m16 : (List UInt8) × Int × Int × (Int × Int × Int × Int) × Int × Int × Int × Int) (m17 : Int × Int × Int × Int × Int × Int × Int) (m18 : Int × Int × Int × Int × Bool × (List Int) × (List Int) × (List Int)) (m19 : List Int) : Option Bool :=
  bif decide (s13 < (List.length m19 : Int)) then
    bif decide (0 ≤ s13 ∧ s13.toNat < List.length m19) then
    (m19[s13.toNat]?).bind fun y1 =>
    (F_R2_Has fu m18.2.2.2.2.2.2.2 y1).bind fun x2 =>
    bif x2 then
      r0 (w64 (s13 + (1 : Int))) m16 m17 m18 m19
    else
      bif decide (0 ≤ s13 ∧ s13.toNat < List.length m19) then
      (m19[s13.toNat]?).bind fun y3 =>
      (F_zones_Offset fu m16 y3).bind fun x4 =>
      bif decide (0 ≤ s13 ∧ s13.toNat < List.length m19) then
      (m19[s13.toNat]?).bind fun y5 =>
      (F_dates_Civil fu y5 x4.1).bind fun x6 =>
      bif x4.2.1 != (0 : Int) then
        some false
      else
        bif x6.2.1 != (0 : Int) then
          some false
        else
          bif x6.1.2.2.2.1 != m17.2.2.2.1 then
            some false
          else
            bif x6.1.2.2.2.2.1 != m17.2.2.2.2.1 then
              some false
            else
              bif x6.1.2.2.2.2.2.1 != m17.2.2.2.2.2.1 then
                some false
              else
                bif decide ((0 : Int) < s13) then
                  bif decide (0 ≤ s13 ∧ s13.toNat < List.length m19) then
                  (m19[s13.toNat]?).bind fun y7 =>
                  bif decide (0 ≤ w64 (s13 - (1 : Int)) ∧ (w64 (s13 - (1 : Int))).toNat < List.length m19) then
                  (m19[(w64 (s13 - (1 : Int))).toNat]?).bind fun y8 =>
                  bif decide (y7 ≤ y8) then
                    some false
                  else
                    r0 (w64 (s13 + (1 : Int))) m16 m17 m18 m19
                  else none
                  else none
                else
                  r0 (w64 (s13 + (1 : Int))) m16 m17 m18 m19
      else none
      else none
    else none
  else
    some true
def F_W2_RecurLocalTime_p0 (fu : Nat) : Nat → Int → ((List UInt8) × Int × Int × (Int × Int × Int × Int) × Int × Int × Int × Int) → (Int × Int × Int × Int × Int × Int × Int) → (Int × Int × Int × Int × Bool × (List Int) × (List Int) × (List Int)) → (List Int) → Option Bool
  | 0, _, _, _, _, _ => none
  | n + 1, s13, m16, m17, m18, m19 => F_W2_RecurLocalTime_b0 fu (F_W2_RecurLocalTime_p0 fu n) s13 m16 m17 m18 m19
def F_W2_RecurLocalTime (fu : Nat) (p0 : (List UInt8) × Int × Int × (Int × Int × Int × Int) × Int × Int × Int × Int) (p1 : Int × Int × Int × Int × Int × Int × Int) (p2 : Int × Int × Int × Int × Bool × (List Int) × (List Int) × (List Int)) (p3 : Int) (p4 : Int) : Option Bool :=
  (F_W2_recurExample fu).bind fun x1 =>
  bif !x1 then
    some false
  else
    (F_recur_Between fu p0 p1 p2 p3 p4).bind fun x2 =>
    bif x2.1.1 != (0 : Int) then
      some ((List.length x2.2 : Int) == (0 : Int))
    else
      F_W2_RecurLocalTime_p0 fu fu (0 : Int) p0 p1 p2 x2.2
/- posthouse/posthouselaw2.RecurExceptions -/
def F_W2_RecurExceptions_p3 (fu : Nat) (r2 : Int → Int → (Int × Int × Int × Int × Bool × (List Int) × (List Int) × (List Int)) → (List Int) → (List Int) → (Int × Int) → (List Int) → Option Bool) (s5 : Int) (s19 : Int) (s89 : Bool) (m16 : Int × Int × Int × Int × Bool × (List Int) × (List Int) × (List Int)) (m17 : List Int) (m18 : List Int) (m19 : Int × Int) (m20 : List Int) : Option Bool :=
  bif s89 then
    bif decide (0 ≤ s19 ∧ s19.toNat < List.length m17) then
    (m17[s19.toNat]?).bind fun y1 =>
    bif decide (List.length (m20 ++ ([y1] : List Int)) ≤ rowMax) then
    r2 s5 (w64 (s19 + (1 : Int))) m16 m17 m18 m19 (m20 ++ ([y1] : List Int))
    else none
    else none
  else
    r2 s5 (w64 (s19 + (1 : Int))) m16 m17 m18 m19 m20
def F_W2_RecurExceptions_b2 (fu : Nat) (r2 : Int → Int → (Int × Int × Int × Int × Bool × (List Int) × (List Int) × (List Int)) → (List Int) → (List Int) → (Int × Int) → (List Int) → Option Bool) (s5 : Int) (s19 : Int) (m16 : Int × Int × Int × Int × Bool × (List Int) × (List Int) × (List Int)) (m17 : List Int) (m18 : List Int) (m19 : Int × Int) (m20 : List Int) : Option Bool :=
  bif decide (s19 < (List.length m17 : Int)) then
    bif s19 != s5 then
      F_W2_RecurExceptions_p3 fu r2 s5 s19 true m16 m17 m18 m19 m20
    else
      bif decide (0 ≤ s19 ∧ s19.toNat < List.length m17) then
      (m17[s19.toNat]?).bind fun y1 =>
      (F_R2_Has fu m16.2.2.2.2.2.2.2 y1).bind fun x2 =>
      F_W2_RecurExceptions_p3 fu r2 s5 s19 x2 m16 m17 m18 m19 m20
      else none
  else
    bif m19.1 == (0 : Int) then
      (F_R1_Ints fu m18 m20).bind fun x3 =>
      some x3
    else
      some false
def F_W2_RecurExceptions_p2 (fu : Nat) : Nat → Int → Int → (Int × Int × Int × Int × Bool × (List Int) × (List Int) × (List Int)) → (List Int) → (List Int) → (Int × Int) → (List Int) → Option Bool
  | 0, _, _, _, _, _, _, _ => none
  | n + 1, s5, s19, m16, m17, m18, m19, m20 => F_W2_RecurExceptions_b2 fu (F_W2_RecurExceptions_p2 fu n) s5 s19 m16 m17 m18 m19 m20
def F_W2_RecurExceptions_p1 (fu : Nat) (s3 : Int) (s4 : Int) (s5 : Int) (m16 : (List UInt8) × Int × Int × (Int × Int × Int × Int) × Int × Int × Int × Int) (m17 : Int × Int × Int × Int × Int × Int × Int) (m18 : Int × Int × Int × Int × Bool × (List Int) × (List Int) × (List Int)) (m19 : List Int) : Option Bool :=
  bif decide (0 ≤ s5 ∧ s5.toNat < List.length m19) then
  (m19[s5.toNat]?).bind fun y1 =>
  (F_recur_Between fu m16 m17 (m18.1, (m18.2.1, (m18.2.2.1, (m18.2.2.2.1, (m18.2.2.2.2.1, (m18.2.2.2.2.2.1, (([y1] : List Int), m18.2.2.2.2.2.2.2))))))) s3 s4).bind fun x2 =>
  F_W2_RecurExceptions_p2 fu fu s5 (0 : Int) m18 m19 x2.2 x2.1 []
  else none
def F_W2_RecurExceptions_p0 (fu : Nat) (s3 : Int) (s4 : Int) (s5 : Int) (s47 : Bool) (m16 : (List UInt8) × Int × Int × (Int × Int × Int × Int) × Int × Int × Int × Int) (m17 : Int × Int × Int × Int × Int × Int × Int) (m18 : Int × Int × Int × Int × Bool × (List Int) × (List Int) × (List Int)) (m19 : List Int) (m20 : Int × Int) : Option Bool :=
  bif s47 then
    bif m20.1 == (0 : Int) then
      some true
    else
      some ((List.length m19 : Int) == (0 : Int))
  else
    F_W2_RecurExceptions_p1 fu s3 s4 s5 m16 m17 m18 m19
def F_W2_RecurExceptions (fu : Nat) (p0 : (List UInt8) × Int × Int × (Int × Int × Int × Int) × Int × Int × Int × Int) (p1 : Int × Int × Int × Int × Int × Int × Int) (p2 : Int × Int × Int × Int × Bool × (List Int) × (List Int) × (List Int)) (p3 : Int) (p4 : Int) (p5 : Int) : Option Bool :=
  (F_W2_recurExample fu).bind fun x1 =>
  bif !x1 then
    some false
  else
    (F_recur_Between fu p0 p1 p2 p3 p4).bind fun x2 =>
    bif x2.1.1 != (0 : Int) then
      F_W2_RecurExceptions_p0 fu p3 p4 p5 true p0 p1 p2 x2.2 x2.1
    else
      bif decide ((0 : Int) < (List.length p2.2.2.2.2.2.2.1 : Int)) then
        F_W2_RecurExceptions_p0 fu p3 p4 p5 true p0 p1 p2 x2.2 x2.1
      else
        (F_R1_In p5 (0 : Int) (w64 ((List.length x2.2 : Int) - (1 : Int)))).bind fun x3 =>
        F_W2_RecurExceptions_p0 fu p3 p4 p5 (!x3) p0 p1 p2 x2.2 x2.1
/- posthouse/posthouselaw2.RecurCounts -/
def F_W2_RecurCounts_p1 (fu : Nat) (s3 : Int) (m16 : (List UInt8) × Int × Int × (Int × Int × Int × Int) × Int × Int × Int × Int) (m17 : Int × Int × Int × Int × Int × Int × Int) (m18 : Int × Int × Int × Int × Bool × (List Int) × (List Int) × (List Int)) (m19 : List Int) : Option Bool :=
  (F_recur_Between fu m16 m17 (m18.1, (m18.2.1, (s3, m18.2.2.2))) (-68719476736 : Int) (68719476736 : Int)).bind fun x1 =>
  bif decide (s3 < (List.length m19 : Int)) then
    bif decide (0 ≤ s3 ∧ s3 ≤ (List.length m19 : Int)) then
    bif x1.1.1 == (0 : Int) then
      (F_R1_Ints fu x1.2 (List.take s3.toNat m19)).bind fun x2 =>
      some x2
    else
      some false
    else none
  else
    bif x1.1.1 == (0 : Int) then
      (F_R1_Ints fu x1.2 m19).bind fun x3 =>
      some x3
    else
      some false
def F_W2_RecurCounts_p0 (fu : Nat) (s3 : Int) (s32 : Bool) (m16 : (List UInt8) × Int × Int × (Int × Int × Int × Int) × Int × Int × Int × Int) (m17 : Int × Int × Int × Int × Int × Int × Int) (m18 : Int × Int × Int × Int × Bool × (List Int) × (List Int) × (List Int)) (m19 : List Int) (m20 : Int × Int) : Option Bool :=
  bif s32 then
    bif m20.1 == (0 : Int) then
      some true
    else
      some ((List.length m19 : Int) == (0 : Int))
  else
    F_W2_RecurCounts_p1 fu s3 m16 m17 m18 m19
def F_W2_RecurCounts (fu : Nat) (p0 : (List UInt8) × Int × Int × (Int × Int × Int × Int) × Int × Int × Int × Int) (p1 : Int × Int × Int × Int × Int × Int × Int) (p2 : Int × Int × Int × Int × Bool × (List Int) × (List Int) × (List Int)) (p3 : Int) : Option Bool :=
  (F_W2_recurExample fu).bind fun x1 =>
  bif !x1 then
    some false
  else
    (F_recur_Between fu p0 p1 (p2.1, (p2.2.1, ((0 : Int), (p2.2.2.2.1, (p2.2.2.2.2.1, (p2.2.2.2.2.2.1, ([], []))))))) (-68719476736 : Int) (68719476736 : Int)).bind fun x2 =>
    bif x2.1.1 != (0 : Int) then
      F_W2_RecurCounts_p0 fu p3 true p0 p1 (p2.1, (p2.2.1, ((0 : Int), (p2.2.2.2.1, (p2.2.2.2.2.1, (p2.2.2.2.2.2.1, ([], []))))))) x2.2 x2.1
    else
      (F_R1_In p3 (1 : Int) (1500 : Int)).bind fun x3 =>
      F_W2_RecurCounts_p0 fu p3 (!x3) p0 p1 (p2.1, (p2.2.1, ((0 : Int), (p2.2.2.2.1, (p2.2.2.2.2.1, (p2.2.2.2.2.2.1, ([], []))))))) x2.2 x2.1
/- posthouse/posthouselaw2.RecurWeekly -/
def F_W2_RecurWeekly (fu : Nat) (p0 : (List UInt8) × Int × Int × (Int × Int × Int × Int) × Int × Int × Int × Int) (p1 : Int × Int × Int × Int × Int × Int × Int) (p2 : Int × Int × Int × Int × Bool × (List Int) × (List Int) × (List Int)) (p3 : Int) (p4 : Int) : Option Bool :=
  (F_W2_recurExample fu).bind fun x1 =>
  bif !x1 then
    some false
  else
    (F_recur_Between fu p0 p1 ((1 : Int), ((1 : Int), (p2.2.2.1, (p2.2.2.2.1, (p2.2.2.2.2.1, ([], p2.2.2.2.2.2.2)))))) p3 p4).bind fun x2 =>
    (F_recur_Between fu p0 p1 ((2 : Int), ((1 : Int), (p2.2.2.1, (p2.2.2.2.1, (p2.2.2.2.2.1, (([(0 : Int), (1 : Int), (2 : Int), (3 : Int), (4 : Int), (5 : Int), (6 : Int)] : List Int), p2.2.2.2.2.2.2)))))) p3 p4).bind fun x3 =>
    bif ((x2.1.1 == x3.1.1) && ((x2.1.2 == x3.1.2) && true)) then
      (F_R1_Ints fu x2.2 x3.2).bind fun x4 =>
      some x4
    else
      some false
end Go.Sym
/- slices.Sort and slices.Compact over ints, in place. The contracts of the library's functions are the kit's. -/
namespace Go.Proofs
open Go.Shelf
def Try.lays189_ren : Go.Shelf.Ren := ⟨fun | 189 => 49 | 125 => 75 | 257 => 74 | 128 => 95 | 129 => 96 | 294 => 87 | 295 => 88 | 296 => 89 | 297 => 90 | 298 => 91 | 299 => 92 | 216 => 80 | 300 => 93 | 301 => 94 | 328 => 101 | 329 => 102 | 330 => 103 | 331 => 104 | 332 => 105 | 215 => 99 | 343 => 107 | n => n, fun | 28 => 35 | 3 => 3 | 46 => 92 | 0 => 0 | 51 => 106 | 53 => 108 | 4 => 4 | 183 => 100 | 182 => 99 | 131 => 79 | 5 => 5 | 9 => 9 | 218 => 110 | 222 => 114 | 228 => 117 | 229 => 70 | n => n, fun | n => n⟩
theorem Try.lays189 : Go.Proofs.Lays.n189 Try.prog Try.lays189_ren := {
  mixed := by kernel_rfl
  f125 := Try.func75.trans (congrArg some (by kernel_rfl))
  f128 := Try.func95.trans (congrArg some (by kernel_rfl))
  f129 := Try.func96.trans (congrArg some (by kernel_rfl))
  f189 := Try.func49.trans (congrArg some (by kernel_rfl))
  f215 := Try.func99.trans (congrArg some (by kernel_rfl))
  f216 := Try.func80.trans (congrArg some (by kernel_rfl))
  f257 := Try.func74.trans (congrArg some (by kernel_rfl))
  f294 := Try.func87.trans (congrArg some (by kernel_rfl))
  f295 := Try.func88.trans (congrArg some (by kernel_rfl))
  f296 := Try.func89.trans (congrArg some (by kernel_rfl))
  f297 := Try.func90.trans (congrArg some (by kernel_rfl))
  f298 := Try.func91.trans (congrArg some (by kernel_rfl))
  f299 := Try.func92.trans (congrArg some (by kernel_rfl))
  f300 := Try.func93.trans (congrArg some (by kernel_rfl))
  f301 := Try.func94.trans (congrArg some (by kernel_rfl))
  f328 := Try.func101.trans (congrArg some (by kernel_rfl))
  f329 := Try.func102.trans (congrArg some (by kernel_rfl))
  f330 := Try.func103.trans (congrArg some (by kernel_rfl))
  f331 := Try.func104.trans (congrArg some (by kernel_rfl))
  f332 := Try.func105.trans (congrArg some (by kernel_rfl))
  f343 := Try.func107.trans (congrArg some (by kernel_rfl))
  t0 := Try.underlying0
  a0 := Try.isAgg0
  z0 := Try.sizeOf0
  v0 := Try.zeroValue0
  t3 := Try.underlying3
  a3 := Try.isAgg3
  z3 := Try.sizeOf3
  v3 := Try.zeroValue3
  t4 := Try.underlying4
  a4 := Try.isAgg4
  z4 := Try.sizeOf4
  v4 := Try.zeroValue4
  t5 := Try.underlying5
  a5 := Try.isAgg5
  z5 := Try.sizeOf5
  v5 := Try.zeroValue5
  t9 := Try.underlying9
  a9 := Try.isAgg9
  z9 := Try.sizeOf9
  v9 := Try.zeroValue9
  t28 := Try.underlying35
  a28 := Try.isAgg35
  z28 := Try.sizeOf35
  v28 := Try.zeroValue35
  t46 := Try.underlying92
  a46 := Try.isAgg92
  z46 := Try.sizeOf92
  v46 := Try.zeroValue92
  t51 := Try.underlying106
  a51 := Try.isAgg106
  z51 := Try.sizeOf106
  v51 := Try.zeroValue106
  t53 := Try.underlying108
  a53 := Try.isAgg108
  z53 := Try.sizeOf108
  v53 := Try.zeroValue108
  t131 := Try.underlying79
  a131 := Try.isAgg79
  z131 := Try.sizeOf79
  v131 := Try.zeroValue79
  t182 := Try.underlying99
  a182 := Try.isAgg99
  z182 := Try.sizeOf99
  v182 := Try.zeroValue99
  t183 := Try.underlying100
  a183 := Try.isAgg100
  z183 := Try.sizeOf100
  v183 := Try.zeroValue100
  t218 := Try.underlying110
  a218 := Try.isAgg110
  z218 := Try.sizeOf110
  v218 := Try.zeroValue110
  t222 := Try.underlying114
  a222 := Try.isAgg114
  z222 := Try.sizeOf114
  v222 := Try.zeroValue114
  t228 := Try.underlying117
  a228 := Try.isAgg117
  z228 := Try.sizeOf117
  v228 := Try.zeroValue117
  t229 := Try.underlying70
  a229 := Try.isAgg70
  z229 := Try.sizeOf70
  v229 := Try.zeroValue70 }
open Go.Sort Go.RowKit in
theorem Try.slices_Sort_int (blk off cap : Nat) (zs : List Int) (w : World) (hH : Holds (Value.int .i64) w blk off zs.toArray) (hblk : blk < w.heap.size) (hsz : zs.length < 4611686018427387904) :
    Calls Try.prog 49 #[.slice (some ⟨blk, off, none⟩) zs.length cap] w fun e w' =>
      e = .returned (.tuple #[]) ∧ ∃ n os, w' = grow (putRow (Value.int .i64) (Sort.ahead w n) blk off (zs.mergeSort fun x y => decide (x ≤ y)).toArray) os := Any.slices_Sort_int Try.lays189 blk off cap zs w hH hblk hsz
/-- .. and plain. (LAID: no walk: one application.) -/
theorem Try.slices_Sort_int_none (p : Option Addr) (cap : Nat) (w : World) :
    Calls Try.prog 49 #[.slice p 0 cap] w fun e w' => e = .returned (.tuple #[]) ∧ w' = w := Any.slices_Sort_int_none Try.lays189 p cap w
def Try.laysNm220_ren : Go.Shelf.Ren := ⟨fun | 20 => 63 | n => n, fun | 22 => 35 | 3 => 3 | 4 => 4 | 0 => 0 | n => n, fun | n => n⟩
theorem Try.laysNm220 : Go.Proofs.Lays2.n20 Try.prog Try.laysNm220_ren := {
  mixed := by kernel_rfl
  f20 := Try.func63.trans (congrArg some (by kernel_rfl))
  t0 := Try.underlying0
  a0 := Try.isAgg0
  z0 := Try.sizeOf0
  v0 := Try.zeroValue0
  t3 := Try.underlying3
  a3 := Try.isAgg3
  z3 := Try.sizeOf3
  v3 := Try.zeroValue3
  t4 := Try.underlying4
  a4 := Try.isAgg4
  z4 := Try.sizeOf4
  v4 := Try.zeroValue4
  t22 := Try.underlying35
  a22 := Try.isAgg35
  z22 := Try.sizeOf35
  v22 := Try.zeroValue35
  i3 := by kernel_rfl }
open Go.RowKit Go.Lib Go.Sort in
theorem Try.slices_Compact_int (blk off cap : Nat) (zs : List Int) (w : World) (hH : Holds (Value.int .i64) w blk off zs.toArray) (hsz : zs.length ≤ 9223372036854775807) (hcap : zs.length ≤ cap) :
    Calls Try.prog 63 #[.slice (some ⟨blk, off, none⟩) zs.length cap] w fun e w' => e = .returned (.slice (some ⟨blk, off, none⟩) (Lib.compact zs).length cap) ∧ ∃ q, w' = putRow (Value.int .i64) (Sort.ahead w q) blk off (Lib.compact zs ++ List.replicate (zs.length - (Lib.compact zs).length) 0).toArray := Any.slices_Compact_int Try.laysNm220 blk off cap zs w hH hsz hcap
open Go.RowKit Go.Lib Go.Sort in
theorem Try.slices_Compact_int_empty (a : Option Addr) (cap : Nat) (w : World) :
    Calls Try.prog 63 #[.slice a 0 cap] w fun e w' => e = .returned (.slice a 0 cap) ∧ w' = w := Any.slices_Compact_int_empty Try.laysNm220 a cap w
end Go.Proofs
namespace Go.Sym
open Go.Proofs Go.Sort Go.RowKit
variable [LC]

/-- a function that leaves the slice where it is -/
theorem CallsTo.inPlace {P : Program} {f : FuncId} {τ : Ty} {l l' : List τ.den} {E : TypeId} (hlen : l'.length = l.length) (h : ∀ (w : World) (G : Gh) (ad : Option Addr) (c : Nat) (us : List Value), RowAt w E τ.sz ad l.length c us → Reps (l.flatMap τ.enc) G.data us →
    Calls P f #[.slice ad l.length c] w fun e w' => e = .returned (.tuple #[]) ∧ ∃ us', RowAt w' E τ.sz ad l.length c us' ∧ Reps (l'.flatMap τ.enc) G.data us' ∧ Bel (fun b => blkOf ad = some b) w w') :
    CallsTo P f [.own 0] [(0, .row τ l E)] (.tup []) [(0, .row τ l' E)] := by
  intro w G vs hm hreps
  have hl : look [(0, Box.row τ l E)] 0 = some (.row τ l E) := rfl
  obtain ⟨ad, c, us, h1, h3, h4, h5⟩ := (hm.holds 0 _ hl).rowAt
  match vs, hreps with
  | [v], hreps =>
    obtain ⟨⟨a', n', c', q1, rfl⟩, _⟩ := hreps
    rw [h1] at q1
    simp only [Option.some.injEq, Prod.mk.injEq] at q1
    obtain ⟨rfl, rfl, rfl⟩ := q1
    refine (h w G ad c us h3 h4).mono ?_
    rintro e w' ⟨rfl, us', r1, r2, r3⟩
    refine ⟨_, G, rfl, ?_, #[], rfl, trivial⟩
    have hself := blocks_self hm
    have hbox : BoxOk G w' 0 (.row τ l' E) := BoxOk.row (by rw [hlen]; exact h1) (by rw [hlen]; exact r1) r2 (fun b hb => h5 b hb)
    cases had : blkOf ad with
    | none =>
      have hst : Still w w' := ⟨r3.os, r3.tape, r3.output, r3.size, fun k hk _ => r3.block k hk (fun e => by rw [had] at e; cases e)⟩
      have hf := hself.extend (new := []) (Gh.le.refl G) hst (fun _ _ _ h => .inl h) (fun b o v hv => by
        have hc := hm.agree b o v hv
        have hlt := World.block_lt_of_cell? _ _ hc
        rw [World.cell?_of_block (w := w) (hst.block b hlt (fun h => h))]; exact hc) hm.one (fun n bx h => by cases h) (fun n bx h => by cases h) (fun n m bx bx' b h => by cases h)
      have hlk : ∀ m b, look [(0, Box.row τ l' E)] m = some b → m = 0 ∧ b = .row τ l' E := fun m b hh => by
        simp only [look] at hh
        cases hb : Nat.beq 0 m
        · rw [hb] at hh; cases hh
        · rw [hb] at hh; simp only [cond_true, Option.some.injEq] at hh; exact ⟨(Nat.eq_of_beq_eq_true hb).symm, hh.symm⟩
      have hat : G.at 0 (.row τ l' E) = none := by
        simp only [Gh.at, h1]
        cases ad with
        | none => rfl
        | some a => cases had
      refine ⟨⟨hf.mem.agree, hf.mem.one, fun m b hh => ?_, fun m m' b b' c h1 h2 h3 _ => ?_⟩, hf.bel, hf.imm_le, hf.imm_new, fun m b c h1 h2 => ?_, hf.keep, hf.keepOwn⟩
      · obtain ⟨rfl, rfl⟩ := hlk m b hh; exact hbox
      · obtain ⟨rfl, _⟩ := hlk m b h1
        obtain ⟨rfl, _⟩ := hlk m' b' h2
        rfl
      · obtain ⟨rfl, rfl⟩ := hlk m b h1
        rw [hat] at h2; cases h2
    | some B =>
      have hat : ∀ l : List τ.den, G.at 0 (.row τ l E) = some B := fun l => by
        simp only [Gh.at, h1]
        cases ad with
        | none => cases had
        | some a => exact had
      have hf := hself.update (bx' := .row τ l' E) hl (hat l) (hat l') ⟨r3.os, r3.tape, r3.output, r3.size, fun k hk hne => r3.block k hk (fun e => by rw [had] at e; injection e with e; exact hne e.symm)⟩ hbox (h5 B had)
      have hlk : ∀ m b, look [(0, Box.row τ l' E)] m = some b → look (setHp [(0, Box.row τ l E)] 0 (.row τ l' E)) m = some b := fun m b hh => by
        simp only [look] at hh
        simp only [setHp, look]
        cases hb : Nat.beq 0 m
        · rw [hb] at hh; cases hh
        · rw [hb] at hh; exact hh
      exact ⟨⟨hf.mem.agree, hf.mem.one, fun m b hh => hf.mem.holds m b (hlk m b hh), fun m m' b b' c h1 h2 h3 h4 => hf.mem.apart m m' b b' c (hlk _ _ h1) (hlk _ _ h2) h3 h4⟩, hf.bel, hf.imm_le, hf.imm_new, fun m b c h1 h2 => hf.base m b c (hlk _ _ h1) h2, hf.keep, hf.keepOwn⟩
  | [], hreps => exact hreps.elim
  | _ :: _ :: _, hreps => exact hreps.2.elim
omit [LC] in
theorem put_heap (w : World) (n g : Nat) (d : Array Int) (os : Array Obj) (k : Nat) (hk : k < w.heap.size) (hne : k ≠ g) : (grow (putRow (Value.int .i64) (Sort.ahead w n) g 0 d) os).heap[k]? = w.heap[k]? := by
  show ((w.heap.modify g (onCells (putCells (Value.int .i64) 0 d))) ++ os)[k]? = _
  rw [Array.getElem?_append_left (by simpa using hk), Array.getElem?_modify, if_neg (by omega)]
omit [LC] in
theorem put_own (w : World) (n g : Nat) (d : Array Int) (os : Array Obj) {cur : Array Value} {e : TypeId} {fr : Nat × Nat} (hh : w.heap[g]? = some (.cells cur e fr)) :
    (grow (putRow (Value.int .i64) (Sort.ahead w n) g 0 d) os).heap[g]? = some (.cells (putCells (Value.int .i64) 0 d cur) e fr) := by
  have hg : g < w.heap.size := (Array.getElem?_eq_some_iff.1 hh).1
  show ((w.heap.modify g (onCells (putCells (Value.int .i64) 0 d))) ++ os)[g]? = _
  rw [Array.getElem?_append_left (by simpa using hg), Array.getElem?_modify, if_pos rfl, hh]
  rfl
omit [LC] in
theorem put_take (zs : List Int) (cur : Array Value) (h : zs.length ≤ cur.size) : (putCells (Value.int .i64) 0 zs.toArray cur).toList.take zs.length = zs.map (Value.int .i64) := by
  apply List.ext_getElem?
  intro j
  rw [List.getElem?_take, List.getElem?_map]
  by_cases hj : j < zs.length
  · rw [if_pos hj, Array.getElem?_toList]
    unfold putCells
    rw [Array.getElem?_mapIdx, Array.getElem?_eq_getElem (by omega)]
    simp [hj]
  · rw [if_neg hj, List.getElem?_eq_none (by omega)]; rfl
omit [LC] in
theorem put_size (w : World) (n g : Nat) (d : Array Int) (os : Array Obj) : w.heap.size ≤ (grow (putRow (Value.int .i64) (Sort.ahead w n) g 0 d) os).heap.size := by
  show w.heap.size ≤ ((w.heap.modify g (onCells (putCells (Value.int .i64) 0 d))) ++ os).size
  simp
omit [LC] in
theorem put_cells (zs : List Int) (cur : Array Value) (v : Value) (hv : v ∈ (putCells (Value.int .i64) 0 zs.toArray cur).toList) : v ∈ cur.toList ∨ ∃ n, v = .int .i64 n := by
  unfold putCells at hv
  rw [Array.mem_toList_iff, Array.mem_mapIdx] at hv
  obtain ⟨j, hj, rfl⟩ := hv
  split
  · exact .inr ⟨_, rfl⟩
  · exact .inl (by simp)

omit [LC] in
theorem flat_encI : ∀ (l : List Int), List.flatMap (β := AV) (Ty.int .i64).enc l = l.map (AV.int .i64)
  | [] => rfl
  | c :: b => congrArg (AV.int .i64 c :: ·) (flat_encI b)
omit [LC] in
theorem reps_ints {G : Gh} : ∀ {l : List Int} {us : List Value}, Reps (l.map (AV.int .i64)) G us → us = l.map (Value.int .i64)
  | [], [], _ => rfl
  | c :: b, u :: us, h => by
    have h1 : u = .int .i64 c := h.1
    rw [List.map_cons, ← reps_ints h.2, h1]
  | [], _ :: _, h => h.elim
  | _ :: _, [], h => h.elim
omit [LC] in
theorem reps_ints' {G : Gh} : ∀ (l : List Int), Reps (l.map (AV.int .i64)) G (l.map (Value.int .i64))
  | [] => trivial
  | _ :: b => ⟨rfl, reps_ints' b⟩
omit [LC] in
theorem sorted_length (l : List Int) : (sorted l).length = l.length := List.length_mergeSort l
omit [LC] in
theorem holds_row {w : World} {g c : Nat} {vs : Array Value} {fz : Nat × Nat} {E : TypeId} {l : List Int} {us : List Value} (h2 : w.heap[g]? = some (.cells vs E fz)) (h3 : fz = (0, 0) ∨ vs.size ≤ fz.1) (h4 : l.length ≤ c) (h6 : vs.size = c) (h7 : vs.toList.take l.length = us) (hus : us = l.map (Value.int .i64)) : Holds (Value.int .i64) w g 0 l.toArray := by
  intro j hj
  have hj' : j < l.length := by simpa using hj
  have hjv : j < vs.size := by omega
  refine ⟨?_, ?_⟩
  · have hc : (vs.toList.take l.length)[j]? = some (.int .i64 l[j]) := by
      rw [h7, hus, List.getElem?_map, List.getElem?_eq_getElem hj']; rfl
    rw [List.getElem?_take, if_pos hj'] at hc
    simp only [World.cell?, h2, Nat.zero_add]
    simpa [hj'] using hc
  · simp only [World.frozen?, h2]
    rcases h3 with rfl | h3
    · simp
    · simp; omega
theorem sort_ok (l : List Int) (hlen : l.length ≤ rowMax) : CallsTo Try.prog 49 [.own 0] [(0, .row (.int .i64) l 3)] (.tup []) [(0, .row (.int .i64) (sorted l) 3)] := by
  unfold rowMax at hlen
  refine CallsTo.inPlace (τ := .int .i64) (l := l) (l' := sorted l) (sorted_length l) (fun w G ad c us hrow hreps => ?_)
  rw [flat_encI] at hreps ⊢
  have hus := reps_ints hreps
  obtain ⟨hul, hrow⟩ := hrow
  rcases hrow with ⟨rfl, h2, rfl⟩ | ⟨g, vs, fz, rfl, h2, h3, h4, h5, h6, h7, h8⟩
  · have hl : l = [] := List.eq_nil_of_length_eq_zero h2
    subst hl
    refine (Try.slices_Sort_int_none none 0 w).mono ?_
    rintro e w' ⟨rfl, rfl⟩
    exact ⟨rfl, us, ⟨hul, .inl ⟨rfl, rfl, rfl⟩⟩, by rw [hus]; simp [sorted, Reps], ⟨rfl, rfl, rfl, Nat.le_refl _, fun _ _ _ => rfl⟩⟩
  · by_cases hne : l = []
    · subst hne
      refine (Try.slices_Sort_int_none (some ⟨g, 0, none⟩) c w).mono ?_
      rintro e w' ⟨rfl, rfl⟩
      exact ⟨rfl, us, ⟨hul, .inr ⟨g, vs, fz, rfl, h2, h3, h4, h5, h6, h7, h8⟩⟩, by rw [hus]; simp [sorted, Reps], ⟨rfl, rfl, rfl, Nat.le_refl _, fun _ _ _ => rfl⟩⟩
    · have hlt : g < w.heap.size := (Array.getElem?_eq_some_iff.1 h2).1
      simp only [Ty.sz, Nat.mul_one] at h6 h7
      have hH := holds_row h2 h3 h4 h6 h7 hus
      refine (Try.slices_Sort_int g 0 c l w hH hlt (by omega)).mono ?_
      rintro e w' ⟨rfl, n, os, rfl⟩
      have hl := sorted_length l
      refine ⟨rfl, (sorted l).map (Value.int .i64), ⟨by show ((sorted l).map (Value.int .i64)).length = List.length (α := Int) l * 1; rw [List.length_map, hl, Nat.mul_one], .inr ⟨g, putCells (Value.int .i64) 0 (sorted l).toArray vs, fz, rfl, put_own w n g _ os h2, ?_, h4, h5, ?_, ?_, ?_⟩⟩, reps_ints' _, ⟨rfl, rfl, rfl, put_size w n g _ os, fun k hk hne => put_heap w n g _ os k hk (fun e => hne (by subst e; rfl))⟩⟩
      · have : (putCells (Value.int .i64) 0 (sorted l).toArray vs).size = vs.size := by unfold putCells; rw [Array.size_mapIdx]
        rw [this]; exact h3
      · unfold putCells; rw [Array.size_mapIdx]; show vs.size = c * 1; omega
      · show List.take (List.length (α := Int) l * 1) _ = _
        rw [Nat.mul_one, ← hl]; exact put_take _ vs (by rw [hl]; have h4' : List.length (α := Int) l ≤ c := h4; omega)
      · intro v hv
        rcases put_cells _ _ _ hv with h | ⟨m, rfl⟩
        · exact h8 v h
        · rfl
/- slices.Sort -/
def F_slices_Sort_ent (r : (List Int) → Option R_slices_Sort) : Ent := { key := .fn 49, args := [.own 0], hp := [(0, .row (.int .i64) 3)], R := R_slices_Sort, F := fun _ d' => r d'.1, out := .one (α := List Int) (.tup []) [(0, .row (.int .i64) 3)] (fun r => ((), (r, ()))) (fun y => y.2.1) (fun _ => rfl) }
theorem F_slices_Sort_ok : (F_slices_Sort_ent F_slices_Sort).Sound Try.prog := fun d d' r h => by
  refine ⟨Try.call49, ?_⟩
  have h : (bif decide (List.length (α := Int) d'.1 ≤ rowMax) then some (sorted d'.1) else none) = some r := h
  cases hd : decide (List.length (α := Int) d'.1 ≤ rowMax) <;> rw [hd] at h
  · cases h
  have h := Option.some.inj h
  subst h
  exact sort_ok d'.1 (of_decide_eq_true hd)
omit [LC] in
theorem compact_le (l : List Int) : (compactI l).length ≤ l.length := by
  unfold compactI Lib.compact Lib.compactUpTo
  rw [List.length_map]
  exact Nat.le_trans (List.length_filter_le _ _) (by simp)
theorem Fin.sub {w₀ : World} {G₀ : Gh} {hp₀ : List (Nat × Box)} {G : Gh} {hp l : List (Nat × Box)} {w : World} (hf : Fin w₀ G₀ hp₀ G hp w) (h : ∀ m b, look l m = some b → look hp m = some b) : Fin w₀ G₀ hp₀ G l w :=
  ⟨⟨hf.mem.agree, hf.mem.one, fun m b hh => hf.mem.holds m b (h m b hh), fun m m' b b' c h1 h2 h3 h4 => hf.mem.apart m m' b b' c (h _ _ h1) (h _ _ h2) h3 h4⟩, hf.bel, hf.imm_le, hf.imm_new, fun m b c h1 h2 => hf.base m b c (h _ _ h1) h2, hf.keep, hf.keepOwn⟩
/-- a function that hands back the slice, shorter -/
theorem CallsTo.shorter {P : Program} {f : FuncId} {τ : Ty} {l l' : List τ.den} {E : TypeId} (h : ∀ (w : World) (G : Gh) (ad : Option Addr) (c : Nat) (us : List Value), RowAt w E τ.sz ad l.length c us → Reps (l.flatMap τ.enc) G.data us →
    Calls P f #[.slice ad l.length c] w fun e w' => e = .returned (.slice ad l'.length c) ∧ ∃ us', RowAt w' E τ.sz ad l'.length c us' ∧ Reps (l'.flatMap τ.enc) G.data us' ∧ Bel (fun b => blkOf ad = some b) w w') :
    CallsTo P f [.own 0] [(0, .row τ l E)] (.own 1) [(0, .dead), (1, .row τ l' E)] := by
  intro w G vs hm hreps
  have hl : look [(0, Box.row τ l E)] 0 = some (.row τ l E) := rfl
  have hlk : ∀ m b, look [(0, Box.row τ l E)] m = some b → m = 0 ∧ b = .row τ l E := fun m b hh => by
    simp only [look] at hh
    cases hb : Nat.beq 0 m
    · rw [hb] at hh; cases hh
    · rw [hb] at hh; simp only [cond_true, Option.some.injEq] at hh; exact ⟨(Nat.eq_of_beq_eq_true hb).symm, hh.symm⟩
  have hin : ∀ n b, look [(0, Box.row τ l E)] n = some b → rho [(0, 0)] n = some n ∧ renB (rho [(0, 0)]) b = b := fun n b hh => by
    obtain ⟨rfl, rfl⟩ := hlk n b hh; exact ⟨rfl, rfl⟩
  have hm' := hm.only hin
  obtain ⟨ad, c, us, h1, h3, h4, h5⟩ := (hm'.holds 0 _ hl).rowAt
  have h1' : G.own 0 = some (ad, l.length, c) := h1
  match vs, hreps with
  | [v], hreps =>
    obtain ⟨⟨a', n', c', q1, rfl⟩, _⟩ := hreps
    rw [h1'] at q1
    simp only [Option.some.injEq, Prod.mk.injEq] at q1
    obtain ⟨rfl, rfl, rfl⟩ := q1
    refine (h w (G.view [(0, 0)]) ad c us h3 h4).mono ?_
    rintro e w' ⟨rfl, us', r1, r2, r3⟩
    have hf := (blocks_self hm').take (k := 0) (k' := 1) hl h1 rfl rfl h5 r3 (.inl rfl) r1 r2
    refine ⟨_, _, rfl, (hf.sub fun m b hh => ?_).only hin, ad, l'.length, c, Gh.addOwn_self, rfl⟩
    simp only [look] at hh ⊢
    cases hb : Nat.beq 0 m
    · rw [hb] at hh
      cases hb1 : Nat.beq 1 m
      · rw [hb1] at hh; cases hh
      · rw [hb1] at hh; exact hh
    · rw [hb] at hh
      have := Nat.eq_of_beq_eq_true hb; subst this
      exact hh
  | [], hreps => exact hreps.elim
  | _ :: _ :: _, hreps => exact hreps.2.elim
omit [LC] in
theorem ahead_heap (w : World) (n g : Nat) (d : Array Int) (k : Nat) (hne : k ≠ g) : (putRow (Value.int .i64) (Sort.ahead w n) g 0 d).heap[k]? = w.heap[k]? := by
  show (w.heap.modify g (onCells (putCells (Value.int .i64) 0 d)))[k]? = _
  rw [Array.getElem?_modify, if_neg (by omega)]
omit [LC] in
theorem ahead_own (w : World) (n g : Nat) (d : Array Int) {cur : Array Value} {e : TypeId} {fr : Nat × Nat} (hh : w.heap[g]? = some (.cells cur e fr)) :
    (putRow (Value.int .i64) (Sort.ahead w n) g 0 d).heap[g]? = some (.cells (putCells (Value.int .i64) 0 d cur) e fr) := by
  show (w.heap.modify g (onCells (putCells (Value.int .i64) 0 d)))[g]? = _
  rw [Array.getElem?_modify, if_pos rfl, hh]
  rfl
/-- slices.Compact -/
theorem compact_ok (l : List Int) (hlen : l.length ≤ rowMax) : CallsTo Try.prog 63 [.own 0] [(0, .row (.int .i64) l 3)] (.own 1) [(0, .dead), (1, .row (.int .i64) (compactI l) 3)] := by
  unfold rowMax at hlen
  refine CallsTo.shorter (τ := .int .i64) (l := l) (l' := compactI l) (fun w G ad c us hrow hreps => ?_)
  rw [flat_encI] at hreps ⊢
  have hus := reps_ints hreps
  obtain ⟨hul, hrow⟩ := hrow
  have hle := compact_le l
  by_cases hne : l = []
  · subst hne
    have hc : compactI [] = [] := List.eq_nil_of_length_eq_zero (by simpa using hle)
    rw [hc]
    refine (Try.slices_Compact_int_empty ad c w).mono ?_
    rintro e w' ⟨rfl, rfl⟩
    exact ⟨rfl, us, ⟨hul, hrow⟩, by rw [hus]; trivial, ⟨rfl, rfl, rfl, Nat.le_refl _, fun _ _ _ => rfl⟩⟩
  · rcases hrow with ⟨rfl, h2, rfl⟩ | ⟨g, vs, fz, rfl, h2, h3, h4, h5, h6, h7, h8⟩
    · exact absurd (List.eq_nil_of_length_eq_zero h2) hne
    · have h4' : l.length ≤ c := h4
      have h6' : vs.size = c := by have : vs.size = c * 1 := h6; omega
      have h7' : vs.toList.take l.length = us := by have : vs.toList.take (l.length * 1) = us := h7; rwa [Nat.mul_one] at this
      have hH := holds_row h2 h3 h4' h6' h7' hus
      refine (Try.slices_Compact_int g 0 c l w hH (by omega) h4').mono ?_
      rintro e w' ⟨rfl, q, rfl⟩
      obtain ⟨d, hd⟩ : ∃ d, d = compactI l ++ List.replicate (l.length - (compactI l).length) 0 := ⟨_, rfl⟩
      have hdl : d.length = l.length := by rw [hd]; simp; omega
      rw [show Lib.compact l ++ List.replicate (l.length - (Lib.compact l).length) 0 = d from hd.symm]
      refine ⟨rfl, (compactI l).map (Value.int .i64), ⟨by show ((compactI l).map (Value.int .i64)).length = (compactI l).length * 1; simp, .inr ⟨g, putCells (Value.int .i64) 0 d.toArray vs, fz, rfl, ahead_own w q g _ h2, ?_, ?_, h5, ?_, ?_, ?_⟩⟩, reps_ints' _, ⟨rfl, rfl, rfl, ?_, fun k _ hne => ahead_heap w q g _ k (fun e => hne (by subst e; rfl))⟩⟩
      · have : (putCells (Value.int .i64) 0 d.toArray vs).size = vs.size := by unfold putCells; rw [Array.size_mapIdx]
        rw [this]; exact h3
      · exact Nat.le_trans hle h4'
      · unfold putCells; rw [Array.size_mapIdx]; show vs.size = c * 1; omega
      · show List.take ((compactI l).length * 1) _ = _
        rw [Nat.mul_one]
        have e1 := put_take d vs (by rw [hdl]; omega)
        have e2 : List.take (compactI l).length (List.take d.length (putCells (Value.int .i64) 0 d.toArray vs).toList) = List.take (compactI l).length (putCells (Value.int .i64) 0 d.toArray vs).toList := by
          rw [List.take_take, Nat.min_eq_left (by omega)]
        rw [← e2, e1, hd, List.map_append, List.take_append_of_le_length (by simp), List.take_of_length_le (by simp)]
      · intro v hv
        rcases put_cells _ _ _ hv with h | ⟨m, rfl⟩
        · exact h8 v h
        · rfl
      · show w.heap.size ≤ (w.heap.modify g _).size
        simp
def F_slices_Compact_ent (r : (List Int) → Option R_slices_Compact) : Ent := { key := .fn 63, args := [.own 0], hp := [(0, .row (.int .i64) 3)], R := R_slices_Compact, F := fun _ d' => r d'.1, out := .one (α := List Int) (.own 1) [(0, .dead), (1, .row (.int .i64) 3)] (fun r => ((), ((), (r, ())))) (fun y => y.2.2.1) (fun _ => rfl) }
theorem F_slices_Compact_ok : (F_slices_Compact_ent F_slices_Compact).Sound Try.prog := fun d d' r h => by
  refine ⟨Try.call63, ?_⟩
  have h : (bif decide (List.length (α := Int) d'.1 ≤ rowMax) then some (compactI d'.1) else none) = some r := h
  cases hd : decide (List.length (α := Int) d'.1 ≤ rowMax) <;> rw [hd] at h
  · cases h
  have h := Option.some.inj h
  subst h
  exact compact_ok d'.1 (of_decide_eq_true hd)
end Go.Sym
/- The Go functions compute the plain functions: printed by a program; each is reckoned by the kernel. -/
namespace Go.Sym
open Go.Proofs
set_option linter.unusedVariables false
set_option maxRecDepth 100000
noncomputable def lcOf : Nat → Option (Code × Code)
  | 0 => some (child 0 (sub (bodyOf Try.f30) [0, 1, 0, 1, 1, 1, 1, 1, 1, 1]), child 1 (sub (bodyOf Try.f30) [0, 1, 0, 1, 1, 1, 1, 1, 1, 1]))
  | _ => none
noncomputable instance : LC := ⟨lcOf⟩
theorem Try_mixed : Try.prog.follows .mixedOrders = true := by kernel_rfl
def etys : List (Nat × Ty) := [(3, .int .i64)]
/- posthouse/posthouselaw2.spring -/
def F_W2_spring_out : RS R_W2_spring := .one (α := ((List UInt8) × Int × Int × (Int × Int × Int × Int) × Int × Int × Int × Int)) (.h (.prod .str (.prod (.int .i64) (.prod (.int .i64) (.prod (.prod (.int .i64) (.prod (.int .i64) (.prod (.int .i64) (.int .i64)))) (.prod (.int .i64) (.prod (.int .i64) (.prod (.int .i64) (.int .i64))))))))) [] (fun r => (r, ())) (fun y => y.1) (fun _ => rfl)
def F_W2_spring_hp : List (Nat × BPt) := []
def F_W2_spring_args : List Pt := []
def F_W2_spring_ent (r : Option R_W2_spring) : Ent := { key := .fn 33, args := F_W2_spring_args, hp := F_W2_spring_hp, R := R_W2_spring, F := fun _ _ => r, out := F_W2_spring_out }
noncomputable def F_W2_spring_cx : Cx := { P := Try.prog, tb := ⟨[], etys, false⟩, fn := Try.f33, f := 33, ids := idsB F_W2_spring_hp, rd := none, tags := [] }
theorem F_W2_spring_cxok : (F_W2_spring_cx).Ok (bodyOf Try.f33) := ⟨ents0, Try_mixed, Try.func33, tags0⟩
theorem F_W2_spring_ok : (F_W2_spring_ent (F_W2_spring)).Sound Try.prog :=
  Ent.sound_fn (cx := F_W2_spring_cx) (labs := []) (F_W2_spring_cxok) rfl rfl rfl rfl Try.call33 (by kernel_rfl) (fun _ => labs0) (fun d d' => by kernel_rfl)
/- posthouse/basic.Letter -/
def F_basic_Letter_out : RS Bool := .one (α := Bool) (.h .bool) [] (fun r => (r, ())) (fun y => y.1) (fun _ => rfl)
def F_basic_Letter_hp : List (Nat × BPt) := []
def F_basic_Letter_args : List Pt := [.h .byte]
def F_basic_Letter_ent (r : UInt8 → Option Bool) : Ent := { key := .fn 68, args := F_basic_Letter_args, hp := F_basic_Letter_hp, R := Bool, F := fun d _ => r d.1, out := F_basic_Letter_out }
noncomputable def F_basic_Letter_cx : Cx := { P := Try.prog, tb := ⟨[], etys, false⟩, fn := Try.f68, f := 68, ids := idsB F_basic_Letter_hp, rd := none, tags := [] }
theorem F_basic_Letter_cxok : (F_basic_Letter_cx).Ok (bodyOf Try.f68) := ⟨ents0, Try_mixed, Try.func68, tags0⟩
theorem F_basic_Letter_ok : (F_basic_Letter_ent (F_basic_Letter)).Sound Try.prog :=
  Ent.sound_fn (cx := F_basic_Letter_cx) (labs := []) (F_basic_Letter_cxok) rfl rfl rfl rfl Try.call68 (by kernel_rfl) (fun _ => labs0) (fun d d' => by kernel_rfl)
/- posthouse/basic.Name$1 -/
def F_basic_Name_1_out : RS Bool := .one (α := Bool) (.h .bool) [] (fun r => (r, ())) (fun y => y.1) (fun _ => rfl)
def F_basic_Name_1_hp : List (Nat × BPt) := []
def F_basic_Name_1_args : List Pt := [.h .byte]
def F_basic_Name_1_ent (r : UInt8 → Option Bool) : Ent := { key := .fn 67, args := F_basic_Name_1_args, hp := F_basic_Name_1_hp, R := Bool, F := fun d _ => r d.1, out := F_basic_Name_1_out }
noncomputable def F_basic_Name_1_cx : Cx := { P := Try.prog, tb := ⟨[F_basic_Letter_ent F_basic_Letter], etys, false⟩, fn := Try.f67, f := 67, ids := idsB F_basic_Name_1_hp, rd := none, tags := [] }
theorem F_basic_Name_1_cxok : (F_basic_Name_1_cx).Ok (bodyOf Try.f67) := ⟨(ents1 F_basic_Letter_ok ents0), Try_mixed, Try.func67, tags0⟩
theorem F_basic_Name_1_ok : (F_basic_Name_1_ent (F_basic_Name_1)).Sound Try.prog :=
  Ent.sound_fn (cx := F_basic_Name_1_cx) (labs := []) (F_basic_Name_1_cxok) rfl rfl rfl rfl Try.call67 (by kernel_rfl) (fun _ => labs0) (fun d d' => by kernel_rfl)
/- posthouse/basic.All -/
def F_basic_All_out : RS Bool := .one (α := Bool) (.h .bool) [] (fun r => (r, ())) (fun y => y.1) (fun _ => rfl)
def F_basic_All_hp : List (Nat × BPt) := []
def F_basic_All_args : List Pt := [.h .str, .fn 67 []]
def F_basic_All_ent (r : (List UInt8) → Option Bool) : Ent := { key := .fn 66, args := F_basic_All_args, hp := F_basic_All_hp, R := Bool, F := fun d _ => r d.1, out := F_basic_All_out }
noncomputable def F_basic_All_cx (fu : Nat) : Cx := { P := Try.prog, tb := ⟨[F_basic_Name_1_ent F_basic_Name_1], etys, false⟩, fn := Try.f66, f := 66, ids := idsB F_basic_All_hp, rd := none, tags := [] }
theorem F_basic_All_cxok (fu : Nat) : (F_basic_All_cx fu).Ok (bodyOf Try.f66) := ⟨(ents1 F_basic_Name_1_ok ents0), Try_mixed, Try.func66, tags0⟩
def F_basic_All_l0 (r : (List UInt8) → Int → Int → Option Bool) : Lab Bool := ⟨[(0, [0, 0, 0, 1, 0, 1]), (0, [1, 0, 0, 1, 0, 1]), (2, [0, 1, 0, 1]), (1, [1, 0, 1]), (0, [1, 1])], ⟨18, [(0, .h .str), (1, .fn 67 []), (7, .h (.int .i64)), (8, .h (.int .i64))], [], 64, []⟩, fun d => r d.1.1 d.1.2.2.1 d.1.2.2.2.1⟩
theorem F_basic_All_b0_ok (fu : Nat) (d' : bden F_basic_All_hp) (r0 : (List UInt8) → Int → Int → Option Bool) (h0 : LabOk (F_basic_All_cx fu) (bput F_basic_All_hp d') F_basic_All_out (bodyOf Try.f66) (F_basic_All_l0 r0)) : LabOk (F_basic_All_cx fu) (bput F_basic_All_hp d') F_basic_All_out (bodyOf Try.f66) (F_basic_All_l0 (F_basic_All_b0 fu r0)) :=
  LabOk.of_run (labs := [F_basic_All_l0 (r0)]) (F_basic_All_cxok fu) (fun _ _ h => idsB_look h) (labs1 h0 labs0) (fun d => by kernel_rfl)
theorem F_basic_All_p0_ok (fu : Nat) (d' : bden F_basic_All_hp) : ∀ n, LabOk (F_basic_All_cx fu) (bput F_basic_All_hp d') F_basic_All_out (bodyOf Try.f66) (F_basic_All_l0 (F_basic_All_p0 fu n))
  | 0 => fun _ _ h => by cases h
  | n + 1 => F_basic_All_b0_ok fu d' (F_basic_All_p0 fu n) (F_basic_All_p0_ok fu d' n)
theorem F_basic_All_ok (fu : Nat) : (F_basic_All_ent (F_basic_All fu)).Sound Try.prog :=
  Ent.sound_fn (cx := F_basic_All_cx fu) (labs := [F_basic_All_l0 (F_basic_All_p0 fu fu)]) (F_basic_All_cxok fu) rfl rfl rfl rfl Try.call66 (by kernel_rfl) (fun d' => (labs1 (F_basic_All_p0_ok fu d' fu) labs0)) (fun d d' => by kernel_rfl)
/- posthouse/basic.Name -/
def F_basic_Name_out : RS Bool := .one (α := Bool) (.h .bool) [] (fun r => (r, ())) (fun y => y.1) (fun _ => rfl)
def F_basic_Name_hp : List (Nat × BPt) := []
def F_basic_Name_args : List Pt := [.h .str]
def F_basic_Name_ent (r : (List UInt8) → Option Bool) : Ent := { key := .fn 34, args := F_basic_Name_args, hp := F_basic_Name_hp, R := Bool, F := fun d _ => r d.1, out := F_basic_Name_out }
noncomputable def F_basic_Name_cx (fu : Nat) : Cx := { P := Try.prog, tb := ⟨[F_basic_All_ent (F_basic_All fu)], etys, false⟩, fn := Try.f34, f := 34, ids := idsB F_basic_Name_hp, rd := none, tags := [] }
theorem F_basic_Name_cxok (fu : Nat) : (F_basic_Name_cx fu).Ok (bodyOf Try.f34) := ⟨(ents1 (F_basic_All_ok fu) ents0), Try_mixed, Try.func34, tags0⟩
theorem F_basic_Name_ok (fu : Nat) : (F_basic_Name_ent (F_basic_Name fu)).Sound Try.prog :=
  Ent.sound_fn (cx := F_basic_Name_cx fu) (labs := []) (F_basic_Name_cxok fu) rfl rfl rfl rfl Try.call34 (by kernel_rfl) (fun _ => labs0) (fun d d' => by kernel_rfl)
/- posthouse/basic.Fault -/
def F_basic_Fault_out : RS ((Int × Int)) := .one (α := (Int × Int)) (.h (.prod (.int .i64) (.int .i64))) [] (fun r => (r, ())) (fun y => y.1) (fun _ => rfl)
def F_basic_Fault_hp : List (Nat × BPt) := []
def F_basic_Fault_args : List Pt := [.h (.int .i64), .h (.int .i64)]
def F_basic_Fault_ent (r : Int → Int → Option ((Int × Int))) : Ent := { key := .fn 35, args := F_basic_Fault_args, hp := F_basic_Fault_hp, R := ((Int × Int)), F := fun d _ => r d.1 d.2.1, out := F_basic_Fault_out }
noncomputable def F_basic_Fault_cx : Cx := { P := Try.prog, tb := ⟨[], etys, false⟩, fn := Try.f35, f := 35, ids := idsB F_basic_Fault_hp, rd := none, tags := [] }
theorem F_basic_Fault_cxok : (F_basic_Fault_cx).Ok (bodyOf Try.f35) := ⟨ents0, Try_mixed, Try.func35, tags0⟩
theorem F_basic_Fault_ok : (F_basic_Fault_ent (F_basic_Fault)).Sound Try.prog :=
  Ent.sound_fn (cx := F_basic_Fault_cx) (labs := []) (F_basic_Fault_cxok) rfl rfl rfl rfl Try.call35 (by kernel_rfl) (fun _ => labs0) (fun d d' => by kernel_rfl)
/- posthouse/zones.within -/
def F_zones_within_out : RS Bool := .one (α := Bool) (.h .bool) [] (fun r => (r, ())) (fun y => y.1) (fun _ => rfl)
def F_zones_within_hp : List (Nat × BPt) := []
def F_zones_within_args : List Pt := [.h (.int .i64), .h (.int .i64), .h (.int .i64)]
def F_zones_within_ent (r : Int → Int → Int → Option Bool) : Ent := { key := .fn 36, args := F_zones_within_args, hp := F_zones_within_hp, R := Bool, F := fun d _ => r d.1 d.2.1 d.2.2.1, out := F_zones_within_out }
noncomputable def F_zones_within_cx : Cx := { P := Try.prog, tb := ⟨[], etys, false⟩, fn := Try.f36, f := 36, ids := idsB F_zones_within_hp, rd := none, tags := [] }
theorem F_zones_within_cxok : (F_zones_within_cx).Ok (bodyOf Try.f36) := ⟨ents0, Try_mixed, Try.func36, tags0⟩
theorem F_zones_within_ok : (F_zones_within_ent (F_zones_within)).Sound Try.prog :=
  Ent.sound_fn (cx := F_zones_within_cx) (labs := []) (F_zones_within_cxok) rfl rfl rfl rfl Try.call36 (by kernel_rfl) (fun _ => labs0) (fun d d' => by kernel_rfl)
/- posthouse/zones.fixed -/
def F_zones_fixed_out : RS Bool := .one (α := Bool) (.h .bool) [] (fun r => (r, ())) (fun y => y.1) (fun _ => rfl)
def F_zones_fixed_hp : List (Nat × BPt) := []
def F_zones_fixed_args : List Pt := [.h (.prod .str (.prod (.int .i64) (.prod (.int .i64) (.prod (.prod (.int .i64) (.prod (.int .i64) (.prod (.int .i64) (.int .i64)))) (.prod (.int .i64) (.prod (.int .i64) (.prod (.int .i64) (.int .i64))))))))]
def F_zones_fixed_ent (r : ((List UInt8) × Int × Int × (Int × Int × Int × Int) × Int × Int × Int × Int) → Option Bool) : Ent := { key := .fn 37, args := F_zones_fixed_args, hp := F_zones_fixed_hp, R := Bool, F := fun d _ => r d.1, out := F_zones_fixed_out }
noncomputable def F_zones_fixed_cx : Cx := { P := Try.prog, tb := ⟨[], etys, false⟩, fn := Try.f37, f := 37, ids := idsB F_zones_fixed_hp, rd := none, tags := [] }
theorem F_zones_fixed_cxok : (F_zones_fixed_cx).Ok (bodyOf Try.f37) := ⟨ents0, Try_mixed, Try.func37, tags0⟩
theorem F_zones_fixed_ok : (F_zones_fixed_ent (F_zones_fixed)).Sound Try.prog :=
  Ent.sound_fn (cx := F_zones_fixed_cx) (labs := []) (F_zones_fixed_cxok) rfl rfl rfl rfl Try.call37 (by kernel_rfl) (fun _ => labs0) (fun d d' => by kernel_rfl)
/- posthouse/zones.turn -/
def F_zones_turn_out : RS Bool := .one (α := Bool) (.h .bool) [] (fun r => (r, ())) (fun y => y.1) (fun _ => rfl)
def F_zones_turn_hp : List (Nat × BPt) := []
def F_zones_turn_args : List Pt := [.h (.prod (.int .i64) (.prod (.int .i64) (.prod (.int .i64) (.int .i64))))]
def F_zones_turn_ent (r : (Int × Int × Int × Int) → Option Bool) : Ent := { key := .fn 39, args := F_zones_turn_args, hp := F_zones_turn_hp, R := Bool, F := fun d _ => r d.1, out := F_zones_turn_out }
noncomputable def F_zones_turn_cx : Cx := { P := Try.prog, tb := ⟨[F_zones_within_ent F_zones_within], etys, false⟩, fn := Try.f39, f := 39, ids := idsB F_zones_turn_hp, rd := none, tags := [] }
theorem F_zones_turn_cxok : (F_zones_turn_cx).Ok (bodyOf Try.f39) := ⟨(ents1 F_zones_within_ok ents0), Try_mixed, Try.func39, tags0⟩
theorem F_zones_turn_ok : (F_zones_turn_ent (F_zones_turn)).Sound Try.prog :=
  Ent.sound_fn (cx := F_zones_turn_cx) (labs := []) (F_zones_turn_cxok) rfl rfl rfl rfl Try.call39 (by kernel_rfl) (fun _ => labs0) (fun d d' => by kernel_rfl)
/- posthouse/basic.None -/
def F_basic_None_out : RS ((Int × Int)) := .one (α := (Int × Int)) (.h (.prod (.int .i64) (.int .i64))) [] (fun r => (r, ())) (fun y => y.1) (fun _ => rfl)
def F_basic_None_hp : List (Nat × BPt) := []
def F_basic_None_args : List Pt := []
def F_basic_None_ent (r : Option ((Int × Int))) : Ent := { key := .fn 38, args := F_basic_None_args, hp := F_basic_None_hp, R := ((Int × Int)), F := fun _ _ => r, out := F_basic_None_out }
noncomputable def F_basic_None_cx : Cx := { P := Try.prog, tb := ⟨[], etys, false⟩, fn := Try.f38, f := 38, ids := idsB F_basic_None_hp, rd := none, tags := [] }
theorem F_basic_None_cxok : (F_basic_None_cx).Ok (bodyOf Try.f38) := ⟨ents0, Try_mixed, Try.func38, tags0⟩
theorem F_basic_None_ok : (F_basic_None_ent (F_basic_None)).Sound Try.prog :=
  Ent.sound_fn (cx := F_basic_None_cx) (labs := []) (F_basic_None_cxok) rfl rfl rfl rfl Try.call38 (by kernel_rfl) (fun _ => labs0) (fun d d' => by kernel_rfl)
/- posthouse/zones.Validate -/
def F_zones_Validate_out : RS ((Int × Int)) := .one (α := (Int × Int)) (.h (.prod (.int .i64) (.int .i64))) [] (fun r => (r, ())) (fun y => y.1) (fun _ => rfl)
def F_zones_Validate_hp : List (Nat × BPt) := []
def F_zones_Validate_args : List Pt := [.h (.prod .str (.prod (.int .i64) (.prod (.int .i64) (.prod (.prod (.int .i64) (.prod (.int .i64) (.prod (.int .i64) (.int .i64)))) (.prod (.int .i64) (.prod (.int .i64) (.prod (.int .i64) (.int .i64))))))))]
def F_zones_Validate_ent (r : ((List UInt8) × Int × Int × (Int × Int × Int × Int) × Int × Int × Int × Int) → Option ((Int × Int))) : Ent := { key := .fn 15, args := F_zones_Validate_args, hp := F_zones_Validate_hp, R := ((Int × Int)), F := fun d _ => r d.1, out := F_zones_Validate_out }
noncomputable def F_zones_Validate_cx (fu : Nat) : Cx := { P := Try.prog, tb := ⟨[F_basic_Name_ent (F_basic_Name fu), F_basic_Fault_ent F_basic_Fault, F_zones_within_ent F_zones_within, F_zones_fixed_ent F_zones_fixed, F_zones_turn_ent F_zones_turn, F_basic_None_ent F_basic_None], etys, false⟩, fn := Try.f15, f := 15, ids := idsB F_zones_Validate_hp, rd := none, tags := [] }
theorem F_zones_Validate_cxok (fu : Nat) : (F_zones_Validate_cx fu).Ok (bodyOf Try.f15) := ⟨(ents1 (F_basic_Name_ok fu) (ents1 F_basic_Fault_ok (ents1 F_zones_within_ok (ents1 F_zones_fixed_ok (ents1 F_zones_turn_ok (ents1 F_basic_None_ok ents0)))))), Try_mixed, Try.func15, tags0⟩
def F_zones_Validate_l2 (r : (Int × Int) → Option ((Int × Int))) : Lab ((Int × Int)) := ⟨[(0, [0, 1, 0, 1, 0, 1, 1, 1]), (0, [1, 1, 0, 1, 0, 1, 1, 1]), (0, [1, 1, 1, 1])], ⟨66, [(2, .ptr 16 0)], [(16, .dat (.prod (.int .i64) (.int .i64)) 28)], 64, []⟩, fun d => r d.2.1⟩
def F_zones_Validate_l0 (r : Bool → (Int × Int) → Option ((Int × Int))) : Lab ((Int × Int)) := ⟨[(0, [1, 0, 0, 1, 0, 1, 1, 1]), (0, [1, 0, 1, 0, 1, 1, 1]), (0, [1, 1, 1, 1])], ⟨66, [(2, .ptr 16 0), (23, .h .bool)], [(16, .dat (.prod (.int .i64) (.int .i64)) 28)], 64, []⟩, fun d => r d.1.2.1 d.2.1⟩
def F_zones_Validate_l1 (r : Bool → ((List UInt8) × Int × Int × (Int × Int × Int × Int) × Int × Int × Int × Int) → (Int × Int) → Option ((Int × Int))) : Lab ((Int × Int)) := ⟨[(0, [1, 0, 0, 1, 1, 1, 1]), (1, [0, 1, 1, 1, 1]), (0, [1, 1, 1, 1, 1])], ⟨66, [(1, .ptr 16 0), (2, .ptr 17 0), (26, .h .bool)], [(16, .dat (.prod .str (.prod (.int .i64) (.prod (.int .i64) (.prod (.prod (.int .i64) (.prod (.int .i64) (.prod (.int .i64) (.int .i64)))) (.prod (.int .i64) (.prod (.int .i64) (.prod (.int .i64) (.int .i64)))))))) 25), (17, .dat (.prod (.int .i64) (.int .i64)) 28)], 64, []⟩, fun d => r d.1.2.2.1 d.2.1 d.2.2.1⟩
theorem F_zones_Validate_p2_ok (fu : Nat) (d' : bden F_zones_Validate_hp) : LabOk (F_zones_Validate_cx fu) (bput F_zones_Validate_hp d') F_zones_Validate_out (bodyOf Try.f15) (F_zones_Validate_l2 (F_zones_Validate_p2 fu)) :=
  LabOk.of_run (labs := []) (F_zones_Validate_cxok fu) (fun _ _ h => idsB_look h) labs0 (fun d => by kernel_rfl)
theorem F_zones_Validate_p0_ok (fu : Nat) (d' : bden F_zones_Validate_hp) : LabOk (F_zones_Validate_cx fu) (bput F_zones_Validate_hp d') F_zones_Validate_out (bodyOf Try.f15) (F_zones_Validate_l0 (F_zones_Validate_p0 fu)) :=
  LabOk.of_run (labs := [F_zones_Validate_l2 (F_zones_Validate_p2 fu)]) (F_zones_Validate_cxok fu) (fun _ _ h => idsB_look h) (labs1 (F_zones_Validate_p2_ok fu d') labs0) (fun d => by kernel_rfl)
theorem F_zones_Validate_p1_ok (fu : Nat) (d' : bden F_zones_Validate_hp) : LabOk (F_zones_Validate_cx fu) (bput F_zones_Validate_hp d') F_zones_Validate_out (bodyOf Try.f15) (F_zones_Validate_l1 (F_zones_Validate_p1 fu)) :=
  LabOk.of_run (labs := []) (F_zones_Validate_cxok fu) (fun _ _ h => idsB_look h) labs0 (fun d => by kernel_rfl)
theorem F_zones_Validate_ok (fu : Nat) : (F_zones_Validate_ent (F_zones_Validate fu)).Sound Try.prog :=
  Ent.sound_fn (cx := F_zones_Validate_cx fu) (labs := [F_zones_Validate_l0 (F_zones_Validate_p0 fu), F_zones_Validate_l1 (F_zones_Validate_p1 fu)]) (F_zones_Validate_cxok fu) rfl rfl rfl rfl Try.call15 (by kernel_rfl) (fun d' => (labs1 (F_zones_Validate_p0_ok fu d') (labs1 (F_zones_Validate_p1_ok fu d') labs0))) (fun d d' => by kernel_rfl)
/- posthouse/basic.Failed -/
def F_basic_Failed_out : RS Bool := .one (α := Bool) (.h .bool) [] (fun r => (r, ())) (fun y => y.1) (fun _ => rfl)
def F_basic_Failed_hp : List (Nat × BPt) := []
def F_basic_Failed_args : List Pt := [.h (.prod (.int .i64) (.int .i64))]
def F_basic_Failed_ent (r : (Int × Int) → Option Bool) : Ent := { key := .fn 43, args := F_basic_Failed_args, hp := F_basic_Failed_hp, R := Bool, F := fun d _ => r d.1, out := F_basic_Failed_out }
noncomputable def F_basic_Failed_cx : Cx := { P := Try.prog, tb := ⟨[], etys, false⟩, fn := Try.f43, f := 43, ids := idsB F_basic_Failed_hp, rd := none, tags := [] }
theorem F_basic_Failed_cxok : (F_basic_Failed_cx).Ok (bodyOf Try.f43) := ⟨ents0, Try_mixed, Try.func43, tags0⟩
theorem F_basic_Failed_ok : (F_basic_Failed_ent (F_basic_Failed)).Sound Try.prog :=
  Ent.sound_fn (cx := F_basic_Failed_cx) (labs := []) (F_basic_Failed_cxok) rfl rfl rfl rfl Try.call43 (by kernel_rfl) (fun _ => labs0) (fun d d' => by kernel_rfl)
/- posthouse/basic.Time -/
def F_basic_Time_out : RS Bool := .one (α := Bool) (.h .bool) [] (fun r => (r, ())) (fun y => y.1) (fun _ => rfl)
def F_basic_Time_hp : List (Nat × BPt) := []
def F_basic_Time_args : List Pt := [.h (.int .i64)]
def F_basic_Time_ent (r : Int → Option Bool) : Ent := { key := .fn 44, args := F_basic_Time_args, hp := F_basic_Time_hp, R := Bool, F := fun d _ => r d.1, out := F_basic_Time_out }
noncomputable def F_basic_Time_cx : Cx := { P := Try.prog, tb := ⟨[], etys, false⟩, fn := Try.f44, f := 44, ids := idsB F_basic_Time_hp, rd := none, tags := [] }
theorem F_basic_Time_cxok : (F_basic_Time_cx).Ok (bodyOf Try.f44) := ⟨ents0, Try_mixed, Try.func44, tags0⟩
theorem F_basic_Time_ok : (F_basic_Time_ent (F_basic_Time)).Sound Try.prog :=
  Ent.sound_fn (cx := F_basic_Time_cx) (labs := []) (F_basic_Time_cxok) rfl rfl rfl rfl Try.call44 (by kernel_rfl) (fun _ => labs0) (fun d d' => by kernel_rfl)
/- posthouse/dates.within -/
def F_dates_within_out : RS Bool := .one (α := Bool) (.h .bool) [] (fun r => (r, ())) (fun y => y.1) (fun _ => rfl)
def F_dates_within_hp : List (Nat × BPt) := []
def F_dates_within_args : List Pt := [.h (.int .i64), .h (.int .i64), .h (.int .i64)]
def F_dates_within_ent (r : Int → Int → Int → Option Bool) : Ent := { key := .fn 51, args := F_dates_within_args, hp := F_dates_within_hp, R := Bool, F := fun d _ => r d.1 d.2.1 d.2.2.1, out := F_dates_within_out }
noncomputable def F_dates_within_cx : Cx := { P := Try.prog, tb := ⟨[], etys, false⟩, fn := Try.f51, f := 51, ids := idsB F_dates_within_hp, rd := none, tags := [] }
theorem F_dates_within_cxok : (F_dates_within_cx).Ok (bodyOf Try.f51) := ⟨ents0, Try_mixed, Try.func51, tags0⟩
theorem F_dates_within_ok : (F_dates_within_ent (F_dates_within)).Sound Try.prog :=
  Ent.sound_fn (cx := F_dates_within_cx) (labs := []) (F_dates_within_cxok) rfl rfl rfl rfl Try.call51 (by kernel_rfl) (fun _ => labs0) (fun d d' => by kernel_rfl)
/- posthouse/dates.split -/
def F_dates_split_out : RS (Int × Int) := .one (α := Int × Int) (.tup [.h (.int .i64), .h (.int .i64)]) [] (fun r => ((r.1, (r.2, ())), ())) (fun y => (y.1.1, y.1.2.1)) (fun _ => rfl)
def F_dates_split_hp : List (Nat × BPt) := []
def F_dates_split_args : List Pt := [.h (.int .i64), .h (.int .i64)]
def F_dates_split_ent (r : Int → Int → Option (Int × Int)) : Ent := { key := .fn 52, args := F_dates_split_args, hp := F_dates_split_hp, R := (Int × Int), F := fun d _ => r d.1 d.2.1, out := F_dates_split_out }
noncomputable def F_dates_split_cx : Cx := { P := Try.prog, tb := ⟨[], etys, false⟩, fn := Try.f52, f := 52, ids := idsB F_dates_split_hp, rd := none, tags := [] }
theorem F_dates_split_cxok : (F_dates_split_cx).Ok (bodyOf Try.f52) := ⟨ents0, Try_mixed, Try.func52, tags0⟩
theorem F_dates_split_ok : (F_dates_split_ent (F_dates_split)).Sound Try.prog :=
  Ent.sound_fn (cx := F_dates_split_cx) (labs := []) (F_dates_split_cxok) rfl rfl rfl rfl Try.call52 (by kernel_rfl) (fun _ => labs0) (fun d d' => by kernel_rfl)
/- posthouse/dates.before -/
def F_dates_before_out : RS Int := .one (α := Int) (.h (.int .i64)) [] (fun r => (r, ())) (fun y => y.1) (fun _ => rfl)
def F_dates_before_hp : List (Nat × BPt) := []
def F_dates_before_args : List Pt := [.h (.int .i64)]
def F_dates_before_ent (r : Int → Option Int) : Ent := { key := .fn 76, args := F_dates_before_args, hp := F_dates_before_hp, R := Int, F := fun d _ => r d.1, out := F_dates_before_out }
noncomputable def F_dates_before_cx : Cx := { P := Try.prog, tb := ⟨[], etys, false⟩, fn := Try.f76, f := 76, ids := idsB F_dates_before_hp, rd := none, tags := [] }
theorem F_dates_before_cxok : (F_dates_before_cx).Ok (bodyOf Try.f76) := ⟨ents0, Try_mixed, Try.func76, tags0⟩
theorem F_dates_before_ok : (F_dates_before_ent (F_dates_before)).Sound Try.prog :=
  Ent.sound_fn (cx := F_dates_before_cx) (labs := []) (F_dates_before_cxok) rfl rfl rfl rfl Try.call76 (by kernel_rfl) (fun _ => labs0) (fun d d' => by kernel_rfl)
/- posthouse/dates.leap -/
def F_dates_leap_out : RS Bool := .one (α := Bool) (.h .bool) [] (fun r => (r, ())) (fun y => y.1) (fun _ => rfl)
def F_dates_leap_hp : List (Nat × BPt) := []
def F_dates_leap_args : List Pt := [.h (.int .i64)]
def F_dates_leap_ent (r : Int → Option Bool) : Ent := { key := .fn 97, args := F_dates_leap_args, hp := F_dates_leap_hp, R := Bool, F := fun d _ => r d.1, out := F_dates_leap_out }
noncomputable def F_dates_leap_cx : Cx := { P := Try.prog, tb := ⟨[], etys, false⟩, fn := Try.f97, f := 97, ids := idsB F_dates_leap_hp, rd := none, tags := [] }
theorem F_dates_leap_cxok : (F_dates_leap_cx).Ok (bodyOf Try.f97) := ⟨ents0, Try_mixed, Try.func97, tags0⟩
theorem F_dates_leap_ok : (F_dates_leap_ent (F_dates_leap)).Sound Try.prog :=
  Ent.sound_fn (cx := F_dates_leap_cx) (labs := []) (F_dates_leap_cxok) rfl rfl rfl rfl Try.call97 (by kernel_rfl) (fun _ => labs0) (fun d d' => by kernel_rfl)
/- posthouse/dates.length -/
def F_dates_length_out : RS Int := .one (α := Int) (.h (.int .i64)) [] (fun r => (r, ())) (fun y => y.1) (fun _ => rfl)
def F_dates_length_hp : List (Nat × BPt) := []
def F_dates_length_args : List Pt := [.h (.int .i64), .h (.int .i64)]
def F_dates_length_ent (r : Int → Int → Option Int) : Ent := { key := .fn 77, args := F_dates_length_args, hp := F_dates_length_hp, R := Int, F := fun d _ => r d.1 d.2.1, out := F_dates_length_out }
noncomputable def F_dates_length_cx : Cx := { P := Try.prog, tb := ⟨[F_dates_leap_ent F_dates_leap], etys, false⟩, fn := Try.f77, f := 77, ids := idsB F_dates_length_hp, rd := none, tags := [] }
theorem F_dates_length_cxok : (F_dates_length_cx).Ok (bodyOf Try.f77) := ⟨(ents1 F_dates_leap_ok ents0), Try_mixed, Try.func77, tags0⟩
theorem F_dates_length_ok : (F_dates_length_ent (F_dates_length)).Sound Try.prog :=
  Ent.sound_fn (cx := F_dates_length_cx) (labs := []) (F_dates_length_cxok) rfl rfl rfl rfl Try.call77 (by kernel_rfl) (fun _ => labs0) (fun d d' => by kernel_rfl)
/- posthouse/dates.day -/
def F_dates_day_out : RS Int := .one (α := Int) (.h (.int .i64)) [] (fun r => (r, ())) (fun y => y.1) (fun _ => rfl)
def F_dates_day_hp : List (Nat × BPt) := []
def F_dates_day_args : List Pt := [.h (.int .i64), .h (.int .i64), .h (.int .i64)]
def F_dates_day_ent (r : Int → Int → Int → Option Int) : Ent := { key := .fn 53, args := F_dates_day_args, hp := F_dates_day_hp, R := Int, F := fun d _ => r d.1 d.2.1 d.2.2.1, out := F_dates_day_out }
noncomputable def F_dates_day_cx (fu : Nat) : Cx := { P := Try.prog, tb := ⟨[F_dates_before_ent F_dates_before, F_dates_length_ent F_dates_length], etys, false⟩, fn := Try.f53, f := 53, ids := idsB F_dates_day_hp, rd := none, tags := [] }
theorem F_dates_day_cxok (fu : Nat) : (F_dates_day_cx fu).Ok (bodyOf Try.f53) := ⟨(ents1 F_dates_before_ok (ents1 F_dates_length_ok ents0)), Try_mixed, Try.func53, tags0⟩
def F_dates_day_l0 (r : Int → Int → Int → Int → Option Int) : Lab Int := ⟨[(0, [0, 0, 0, 0, 1, 0, 1, 1]), (0, [1, 0, 0, 0, 1, 0, 1, 1]), (0, [1, 0, 0, 1, 0, 1, 1]), (2, [0, 1, 0, 1, 1]), (1, [1, 0, 1, 1]), (0, [1, 1, 1])], ⟨27, [(0, .h (.int .i64)), (1, .h (.int .i64)), (7, .h (.int .i64)), (8, .h (.int .i64))], [], 64, []⟩, fun d => r d.1.1 d.1.2.1 d.1.2.2.1 d.1.2.2.2.1⟩
theorem F_dates_day_b0_ok (fu : Nat) (d' : bden F_dates_day_hp) (r0 : Int → Int → Int → Int → Option Int) (h0 : LabOk (F_dates_day_cx fu) (bput F_dates_day_hp d') F_dates_day_out (bodyOf Try.f53) (F_dates_day_l0 r0)) : LabOk (F_dates_day_cx fu) (bput F_dates_day_hp d') F_dates_day_out (bodyOf Try.f53) (F_dates_day_l0 (F_dates_day_b0 fu r0)) :=
  LabOk.of_run (labs := [F_dates_day_l0 (r0)]) (F_dates_day_cxok fu) (fun _ _ h => idsB_look h) (labs1 h0 labs0) (fun d => by kernel_rfl)
theorem F_dates_day_p0_ok (fu : Nat) (d' : bden F_dates_day_hp) : ∀ n, LabOk (F_dates_day_cx fu) (bput F_dates_day_hp d') F_dates_day_out (bodyOf Try.f53) (F_dates_day_l0 (F_dates_day_p0 fu n))
  | 0 => fun _ _ h => by cases h
  | n + 1 => F_dates_day_b0_ok fu d' (F_dates_day_p0 fu n) (F_dates_day_p0_ok fu d' n)
theorem F_dates_day_ok (fu : Nat) : (F_dates_day_ent (F_dates_day fu)).Sound Try.prog :=
  Ent.sound_fn (cx := F_dates_day_cx fu) (labs := [F_dates_day_l0 (F_dates_day_p0 fu fu)]) (F_dates_day_cxok fu) rfl rfl rfl rfl Try.call53 (by kernel_rfl) (fun d' => (labs1 (F_dates_day_p0_ok fu d' fu) labs0)) (fun d d' => by kernel_rfl)
/- posthouse/dates.Civil -/
def F_dates_Civil_out : RS R_dates_Civil := .one (α := (Int × Int × Int × Int × Int × Int × Int) × (Int × Int)) (.tup [.h (.prod (.int .i64) (.prod (.int .i64) (.prod (.int .i64) (.prod (.int .i64) (.prod (.int .i64) (.prod (.int .i64) (.int .i64))))))), .h (.prod (.int .i64) (.int .i64))]) [] (fun r => ((r.1, (r.2, ())), ())) (fun y => (y.1.1, y.1.2.1)) (fun _ => rfl)
def F_dates_Civil_hp : List (Nat × BPt) := []
def F_dates_Civil_args : List Pt := [.h (.int .i64), .h (.int .i64)]
def F_dates_Civil_ent (r : Int → Int → Option R_dates_Civil) : Ent := { key := .fn 23, args := F_dates_Civil_args, hp := F_dates_Civil_hp, R := R_dates_Civil, F := fun d _ => r d.1 d.2.1, out := F_dates_Civil_out }
noncomputable def F_dates_Civil_cx (fu : Nat) : Cx := { P := Try.prog, tb := ⟨[F_basic_Time_ent F_basic_Time, F_basic_Fault_ent F_basic_Fault, F_dates_within_ent F_dates_within, F_dates_split_ent F_dates_split, F_dates_day_ent (F_dates_day fu), F_basic_None_ent F_basic_None], etys, false⟩, fn := Try.f23, f := 23, ids := idsB F_dates_Civil_hp, rd := none, tags := [] }
theorem F_dates_Civil_cxok (fu : Nat) : (F_dates_Civil_cx fu).Ok (bodyOf Try.f23) := ⟨(ents1 F_basic_Time_ok (ents1 F_basic_Fault_ok (ents1 F_dates_within_ok (ents1 F_dates_split_ok (ents1 (F_dates_day_ok fu) (ents1 F_basic_None_ok ents0)))))), Try_mixed, Try.func23, tags0⟩
def F_dates_Civil_l4 (r : Int → Int → Int → Int → Int → (Int × Int × Int × Int × Int × Int × Int) → (Int × Int) → Option R_dates_Civil) : Lab R_dates_Civil := ⟨[(0, [1, 1, 0, 0, 1, 0, 1, 1, 1, 1, 1, 1]), (2, [0, 1, 0, 1, 1, 1, 1, 1, 1]), (1, [1, 0, 1, 1, 1, 1, 1, 1]), (0, [1, 1, 1, 1, 1, 1, 1])], ⟨83, [(1, .h (.int .i64)), (4, .ptr 16 0), (5, .ptr 17 0), (6, .h (.int .i64)), (7, .h (.int .i64)), (8, .h (.int .i64)), (9, .h (.int .i64))], [(16, .dat (.prod (.int .i64) (.prod (.int .i64) (.prod (.int .i64) (.prod (.int .i64) (.prod (.int .i64) (.prod (.int .i64) (.int .i64))))))) 34), (17, .dat (.prod (.int .i64) (.int .i64)) 28)], 64, []⟩, fun d => r d.1.1 d.1.2.2.2.1 d.1.2.2.2.2.1 d.1.2.2.2.2.2.1 d.1.2.2.2.2.2.2.1 d.2.1 d.2.2.1⟩
def F_dates_Civil_l3 (r : Int → Int → Int → Int → Int → Bool → (Int × Int × Int × Int × Int × Int × Int) → (Int × Int) → Option R_dates_Civil) : Lab R_dates_Civil := ⟨[(0, [1, 0, 0, 1, 0, 0, 1, 0, 1, 1, 1, 1, 1, 1]), (1, [0, 1, 0, 0, 1, 0, 1, 1, 1, 1, 1, 1]), (0, [1, 1, 0, 0, 1, 0, 1, 1, 1, 1, 1, 1]), (2, [0, 1, 0, 1, 1, 1, 1, 1, 1]), (1, [1, 0, 1, 1, 1, 1, 1, 1]), (0, [1, 1, 1, 1, 1, 1, 1])], ⟨83, [(1, .h (.int .i64)), (4, .ptr 16 0), (5, .ptr 17 0), (6, .h (.int .i64)), (7, .h (.int .i64)), (8, .h (.int .i64)), (9, .h (.int .i64)), (54, .h .bool)], [(16, .dat (.prod (.int .i64) (.prod (.int .i64) (.prod (.int .i64) (.prod (.int .i64) (.prod (.int .i64) (.prod (.int .i64) (.int .i64))))))) 34), (17, .dat (.prod (.int .i64) (.int .i64)) 28)], 64, []⟩, fun d => r d.1.1 d.1.2.2.2.1 d.1.2.2.2.2.1 d.1.2.2.2.2.2.1 d.1.2.2.2.2.2.2.1 d.1.2.2.2.2.2.2.2.1 d.2.1 d.2.2.1⟩
def F_dates_Civil_l5 (r : Int → Int → Int → Int → Int → (Int × Int × Int × Int × Int × Int × Int) → (Int × Int) → Option R_dates_Civil) : Lab R_dates_Civil := ⟨[(0, [0, 0, 0, 0, 0, 1, 1, 1, 1, 1, 1, 1, 1]), (0, [1, 0, 0, 0, 0, 1, 1, 1, 1, 1, 1, 1, 1]), (0, [1, 0, 0, 0, 1, 1, 1, 1, 1, 1, 1, 1]), (2, [0, 0, 1, 1, 1, 1, 1, 1, 1, 1]), (1, [0, 1, 1, 1, 1, 1, 1, 1, 1]), (0, [1, 1, 1, 1, 1, 1, 1, 1, 1])], ⟨83, [(1, .h (.int .i64)), (4, .ptr 16 0), (5, .ptr 17 0), (6, .h (.int .i64)), (7, .h (.int .i64)), (8, .h (.int .i64)), (10, .h (.int .i64))], [(16, .dat (.prod (.int .i64) (.prod (.int .i64) (.prod (.int .i64) (.prod (.int .i64) (.prod (.int .i64) (.prod (.int .i64) (.int .i64))))))) 34), (17, .dat (.prod (.int .i64) (.int .i64)) 28)], 64, []⟩, fun d => r d.1.1 d.1.2.2.2.1 d.1.2.2.2.2.1 d.1.2.2.2.2.2.1 d.1.2.2.2.2.2.2.1 d.2.1 d.2.2.1⟩
def F_dates_Civil_l2 (r : Int → Int → Int → Int → Int → (Int × Int × Int × Int × Int × Int × Int) → (Int × Int) → Option R_dates_Civil) : Lab R_dates_Civil := ⟨[(0, [0, 0, 0, 0, 1, 0, 1, 1, 1, 1, 1, 1]), (0, [1, 0, 0, 0, 1, 0, 1, 1, 1, 1, 1, 1]), (0, [1, 0, 0, 1, 0, 1, 1, 1, 1, 1, 1]), (2, [0, 1, 0, 1, 1, 1, 1, 1, 1]), (1, [1, 0, 1, 1, 1, 1, 1, 1]), (0, [1, 1, 1, 1, 1, 1, 1])], ⟨83, [(1, .h (.int .i64)), (4, .ptr 16 0), (5, .ptr 17 0), (6, .h (.int .i64)), (7, .h (.int .i64)), (8, .h (.int .i64)), (9, .h (.int .i64))], [(16, .dat (.prod (.int .i64) (.prod (.int .i64) (.prod (.int .i64) (.prod (.int .i64) (.prod (.int .i64) (.prod (.int .i64) (.int .i64))))))) 34), (17, .dat (.prod (.int .i64) (.int .i64)) 28)], 64, []⟩, fun d => r d.1.1 d.1.2.2.2.1 d.1.2.2.2.2.1 d.1.2.2.2.2.2.1 d.1.2.2.2.2.2.2.1 d.2.1 d.2.2.1⟩
def F_dates_Civil_l1 (r : Int → Int → Int → (Int × Int × Int × Int × Int × Int × Int) → (Int × Int) → Option R_dates_Civil) : Lab R_dates_Civil := ⟨[(0, [0, 1, 1, 1, 1, 1]), (0, [1, 1, 1, 1, 1, 1])], ⟨83, [(1, .h (.int .i64)), (4, .ptr 16 0), (5, .ptr 17 0), (6, .h (.int .i64)), (7, .h (.int .i64))], [(16, .dat (.prod (.int .i64) (.prod (.int .i64) (.prod (.int .i64) (.prod (.int .i64) (.prod (.int .i64) (.prod (.int .i64) (.int .i64))))))) 34), (17, .dat (.prod (.int .i64) (.int .i64)) 28)], 64, []⟩, fun d => r d.1.1 d.1.2.2.2.1 d.1.2.2.2.2.1 d.2.1 d.2.2.1⟩
def F_dates_Civil_l0 (r : Int → Int → Int → Bool → (Int × Int × Int × Int × Int × Int × Int) → (Int × Int) → Option R_dates_Civil) : Lab R_dates_Civil := ⟨[(0, [1, 0, 1, 1, 1, 1]), (0, [1, 1, 1, 1, 1])], ⟨83, [(1, .h (.int .i64)), (4, .ptr 16 0), (5, .ptr 17 0), (6, .h (.int .i64)), (7, .h (.int .i64)), (36, .h .bool)], [(16, .dat (.prod (.int .i64) (.prod (.int .i64) (.prod (.int .i64) (.prod (.int .i64) (.prod (.int .i64) (.prod (.int .i64) (.int .i64))))))) 34), (17, .dat (.prod (.int .i64) (.int .i64)) 28)], 64, []⟩, fun d => r d.1.1 d.1.2.2.2.1 d.1.2.2.2.2.1 d.1.2.2.2.2.2.1 d.2.1 d.2.2.1⟩
theorem F_dates_Civil_p4_ok (fu : Nat) (d' : bden F_dates_Civil_hp) (r2 : Int → Int → Int → Int → Int → (Int × Int × Int × Int × Int × Int × Int) → (Int × Int) → Option R_dates_Civil) (h2 : LabOk (F_dates_Civil_cx fu) (bput F_dates_Civil_hp d') F_dates_Civil_out (bodyOf Try.f23) (F_dates_Civil_l2 r2)) : LabOk (F_dates_Civil_cx fu) (bput F_dates_Civil_hp d') F_dates_Civil_out (bodyOf Try.f23) (F_dates_Civil_l4 (F_dates_Civil_p4 fu r2)) :=
  LabOk.of_run (labs := [F_dates_Civil_l2 (r2)]) (F_dates_Civil_cxok fu) (fun _ _ h => idsB_look h) (labs1 h2 labs0) (fun d => by kernel_rfl)
theorem F_dates_Civil_p3_ok (fu : Nat) (d' : bden F_dates_Civil_hp) (r2 : Int → Int → Int → Int → Int → (Int × Int × Int × Int × Int × Int × Int) → (Int × Int) → Option R_dates_Civil) (h2 : LabOk (F_dates_Civil_cx fu) (bput F_dates_Civil_hp d') F_dates_Civil_out (bodyOf Try.f23) (F_dates_Civil_l2 r2)) : LabOk (F_dates_Civil_cx fu) (bput F_dates_Civil_hp d') F_dates_Civil_out (bodyOf Try.f23) (F_dates_Civil_l3 (F_dates_Civil_p3 fu r2)) :=
  LabOk.of_run (labs := [F_dates_Civil_l4 (F_dates_Civil_p4 fu r2)]) (F_dates_Civil_cxok fu) (fun _ _ h => idsB_look h) (labs1 (F_dates_Civil_p4_ok fu d' r2 h2) labs0) (fun d => by kernel_rfl)
theorem F_dates_Civil_b5_ok (fu : Nat) (d' : bden F_dates_Civil_hp) (r5 : Int → Int → Int → Int → Int → (Int × Int × Int × Int × Int × Int × Int) → (Int × Int) → Option R_dates_Civil) (h5 : LabOk (F_dates_Civil_cx fu) (bput F_dates_Civil_hp d') F_dates_Civil_out (bodyOf Try.f23) (F_dates_Civil_l5 r5)) : LabOk (F_dates_Civil_cx fu) (bput F_dates_Civil_hp d') F_dates_Civil_out (bodyOf Try.f23) (F_dates_Civil_l5 (F_dates_Civil_b5 fu r5)) :=
  LabOk.of_run (labs := [F_dates_Civil_l5 (r5)]) (F_dates_Civil_cxok fu) (fun _ _ h => idsB_look h) (labs1 h5 labs0) (fun d => by kernel_rfl)
theorem F_dates_Civil_p5_ok (fu : Nat) (d' : bden F_dates_Civil_hp) : ∀ n, LabOk (F_dates_Civil_cx fu) (bput F_dates_Civil_hp d') F_dates_Civil_out (bodyOf Try.f23) (F_dates_Civil_l5 (F_dates_Civil_p5 fu n))
  | 0 => fun _ _ h => by cases h
  | n + 1 => F_dates_Civil_b5_ok fu d' (F_dates_Civil_p5 fu n) (F_dates_Civil_p5_ok fu d' n)
theorem F_dates_Civil_b2_ok (fu : Nat) (d' : bden F_dates_Civil_hp) (r2 : Int → Int → Int → Int → Int → (Int × Int × Int × Int × Int × Int × Int) → (Int × Int) → Option R_dates_Civil) (h2 : LabOk (F_dates_Civil_cx fu) (bput F_dates_Civil_hp d') F_dates_Civil_out (bodyOf Try.f23) (F_dates_Civil_l2 r2)) : LabOk (F_dates_Civil_cx fu) (bput F_dates_Civil_hp d') F_dates_Civil_out (bodyOf Try.f23) (F_dates_Civil_l2 (F_dates_Civil_b2 fu r2)) :=
  LabOk.of_run (labs := [F_dates_Civil_l3 (F_dates_Civil_p3 fu r2), F_dates_Civil_l5 (F_dates_Civil_p5 fu fu)]) (F_dates_Civil_cxok fu) (fun _ _ h => idsB_look h) (labs1 (F_dates_Civil_p3_ok fu d' r2 h2) (labs1 (F_dates_Civil_p5_ok fu d' fu) labs0)) (fun d => by kernel_rfl)
theorem F_dates_Civil_p2_ok (fu : Nat) (d' : bden F_dates_Civil_hp) : ∀ n, LabOk (F_dates_Civil_cx fu) (bput F_dates_Civil_hp d') F_dates_Civil_out (bodyOf Try.f23) (F_dates_Civil_l2 (F_dates_Civil_p2 fu n))
  | 0 => fun _ _ h => by cases h
  | n + 1 => F_dates_Civil_b2_ok fu d' (F_dates_Civil_p2 fu n) (F_dates_Civil_p2_ok fu d' n)
theorem F_dates_Civil_p1_ok (fu : Nat) (d' : bden F_dates_Civil_hp) : LabOk (F_dates_Civil_cx fu) (bput F_dates_Civil_hp d') F_dates_Civil_out (bodyOf Try.f23) (F_dates_Civil_l1 (F_dates_Civil_p1 fu)) :=
  LabOk.of_run (labs := [F_dates_Civil_l2 (F_dates_Civil_p2 fu fu)]) (F_dates_Civil_cxok fu) (fun _ _ h => idsB_look h) (labs1 (F_dates_Civil_p2_ok fu d' fu) labs0) (fun d => by kernel_rfl)
theorem F_dates_Civil_p0_ok (fu : Nat) (d' : bden F_dates_Civil_hp) : LabOk (F_dates_Civil_cx fu) (bput F_dates_Civil_hp d') F_dates_Civil_out (bodyOf Try.f23) (F_dates_Civil_l0 (F_dates_Civil_p0 fu)) :=
  LabOk.of_run (labs := [F_dates_Civil_l1 (F_dates_Civil_p1 fu)]) (F_dates_Civil_cxok fu) (fun _ _ h => idsB_look h) (labs1 (F_dates_Civil_p1_ok fu d') labs0) (fun d => by kernel_rfl)
theorem F_dates_Civil_ok (fu : Nat) : (F_dates_Civil_ent (F_dates_Civil fu)).Sound Try.prog :=
  Ent.sound_fn (cx := F_dates_Civil_cx fu) (labs := [F_dates_Civil_l0 (F_dates_Civil_p0 fu)]) (F_dates_Civil_cxok fu) rfl rfl rfl rfl Try.call23 (by kernel_rfl) (fun d' => (labs1 (F_dates_Civil_p0_ok fu d') labs0)) (fun d d' => by kernel_rfl)
/- posthouse/dates.Validate -/
def F_dates_Validate_out : RS ((Int × Int)) := .one (α := (Int × Int)) (.h (.prod (.int .i64) (.int .i64))) [] (fun r => (r, ())) (fun y => y.1) (fun _ => rfl)
def F_dates_Validate_hp : List (Nat × BPt) := []
def F_dates_Validate_args : List Pt := [.h (.prod (.int .i64) (.prod (.int .i64) (.prod (.int .i64) (.prod (.int .i64) (.prod (.int .i64) (.prod (.int .i64) (.int .i64)))))))]
def F_dates_Validate_ent (r : (Int × Int × Int × Int × Int × Int × Int) → Option ((Int × Int))) : Ent := { key := .fn 73, args := F_dates_Validate_args, hp := F_dates_Validate_hp, R := ((Int × Int)), F := fun d _ => r d.1, out := F_dates_Validate_out }
noncomputable def F_dates_Validate_cx : Cx := { P := Try.prog, tb := ⟨[F_dates_within_ent F_dates_within, F_dates_length_ent F_dates_length, F_basic_Fault_ent F_basic_Fault, F_basic_None_ent F_basic_None], etys, false⟩, fn := Try.f73, f := 73, ids := idsB F_dates_Validate_hp, rd := none, tags := [] }
theorem F_dates_Validate_cxok : (F_dates_Validate_cx).Ok (bodyOf Try.f73) := ⟨(ents1 F_dates_within_ok (ents1 F_dates_length_ok (ents1 F_basic_Fault_ok (ents1 F_basic_None_ok ents0)))), Try_mixed, Try.func73, tags0⟩
theorem F_dates_Validate_ok : (F_dates_Validate_ent (F_dates_Validate)).Sound Try.prog :=
  Ent.sound_fn (cx := F_dates_Validate_cx) (labs := []) (F_dates_Validate_cxok) rfl rfl rfl rfl Try.call73 (by kernel_rfl) (fun _ => labs0) (fun d d' => by kernel_rfl)
/- posthouse/dates.Weekday -/
def F_dates_Weekday_out : RS (Int × (Int × Int)) := .one (α := Int × (Int × Int)) (.tup [.h (.int .i64), .h (.prod (.int .i64) (.int .i64))]) [] (fun r => ((r.1, (r.2, ())), ())) (fun y => (y.1.1, y.1.2.1)) (fun _ => rfl)
def F_dates_Weekday_hp : List (Nat × BPt) := []
def F_dates_Weekday_args : List Pt := [.h (.prod (.int .i64) (.prod (.int .i64) (.prod (.int .i64) (.prod (.int .i64) (.prod (.int .i64) (.prod (.int .i64) (.int .i64)))))))]
def F_dates_Weekday_ent (r : (Int × Int × Int × Int × Int × Int × Int) → Option (Int × (Int × Int))) : Ent := { key := .fn 84, args := F_dates_Weekday_args, hp := F_dates_Weekday_hp, R := (Int × (Int × Int)), F := fun d _ => r d.1, out := F_dates_Weekday_out }
noncomputable def F_dates_Weekday_cx (fu : Nat) : Cx := { P := Try.prog, tb := ⟨[F_dates_Validate_ent F_dates_Validate, F_basic_Failed_ent F_basic_Failed, F_dates_day_ent (F_dates_day fu), F_dates_split_ent F_dates_split, F_basic_None_ent F_basic_None], etys, false⟩, fn := Try.f84, f := 84, ids := idsB F_dates_Weekday_hp, rd := none, tags := [] }
theorem F_dates_Weekday_cxok (fu : Nat) : (F_dates_Weekday_cx fu).Ok (bodyOf Try.f84) := ⟨(ents1 F_dates_Validate_ok (ents1 F_basic_Failed_ok (ents1 (F_dates_day_ok fu) (ents1 F_dates_split_ok (ents1 F_basic_None_ok ents0))))), Try_mixed, Try.func84, tags0⟩
theorem F_dates_Weekday_ok (fu : Nat) : (F_dates_Weekday_ent (F_dates_Weekday fu)).Sound Try.prog :=
  Ent.sound_fn (cx := F_dates_Weekday_cx fu) (labs := []) (F_dates_Weekday_cxok fu) rfl rfl rfl rfl Try.call84 (by kernel_rfl) (fun _ => labs0) (fun d d' => by kernel_rfl)
/- posthouse/dates.Instant -/
def F_dates_Instant_out : RS (Int × (Int × Int)) := .one (α := Int × (Int × Int)) (.tup [.h (.int .i64), .h (.prod (.int .i64) (.int .i64))]) [] (fun r => ((r.1, (r.2, ())), ())) (fun y => (y.1.1, y.1.2.1)) (fun _ => rfl)
def F_dates_Instant_hp : List (Nat × BPt) := []
def F_dates_Instant_args : List Pt := [.h (.prod (.int .i64) (.prod (.int .i64) (.prod (.int .i64) (.prod (.int .i64) (.prod (.int .i64) (.prod (.int .i64) (.int .i64)))))))]
def F_dates_Instant_ent (r : (Int × Int × Int × Int × Int × Int × Int) → Option (Int × (Int × Int))) : Ent := { key := .fn 48, args := F_dates_Instant_args, hp := F_dates_Instant_hp, R := (Int × (Int × Int)), F := fun d _ => r d.1, out := F_dates_Instant_out }
noncomputable def F_dates_Instant_cx (fu : Nat) : Cx := { P := Try.prog, tb := ⟨[F_dates_Validate_ent F_dates_Validate, F_basic_Failed_ent F_basic_Failed, F_dates_day_ent (F_dates_day fu), F_basic_None_ent F_basic_None], etys, false⟩, fn := Try.f48, f := 48, ids := idsB F_dates_Instant_hp, rd := none, tags := [] }
theorem F_dates_Instant_cxok (fu : Nat) : (F_dates_Instant_cx fu).Ok (bodyOf Try.f48) := ⟨(ents1 F_dates_Validate_ok (ents1 F_basic_Failed_ok (ents1 (F_dates_day_ok fu) (ents1 F_basic_None_ok ents0)))), Try_mixed, Try.func48, tags0⟩
theorem F_dates_Instant_ok (fu : Nat) : (F_dates_Instant_ent (F_dates_Instant fu)).Sound Try.prog :=
  Ent.sound_fn (cx := F_dates_Instant_cx fu) (labs := []) (F_dates_Instant_cxok fu) rfl rfl rfl rfl Try.call48 (by kernel_rfl) (fun _ => labs0) (fun d d' => by kernel_rfl)
/- posthouse/zones.instant -/
def F_zones_instant_out : RS Int := .one (α := Int) (.h (.int .i64)) [] (fun r => (r, ())) (fun y => y.1) (fun _ => rfl)
def F_zones_instant_hp : List (Nat × BPt) := []
def F_zones_instant_args : List Pt := [.h (.prod (.int .i64) (.prod (.int .i64) (.prod (.int .i64) (.int .i64)))), .h (.int .i64), .h (.int .i64)]
def F_zones_instant_ent (r : (Int × Int × Int × Int) → Int → Int → Option Int) : Ent := { key := .fn 69, args := F_zones_instant_args, hp := F_zones_instant_hp, R := Int, F := fun d _ => r d.1 d.2.1 d.2.2.1, out := F_zones_instant_out }
noncomputable def F_zones_instant_cx (fu : Nat) : Cx := { P := Try.prog, tb := ⟨[F_dates_Weekday_ent (F_dates_Weekday fu), F_dates_Validate_ent F_dates_Validate, F_basic_Failed_ent F_basic_Failed, F_dates_Instant_ent (F_dates_Instant fu)], etys, false⟩, fn := Try.f69, f := 69, ids := idsB F_zones_instant_hp, rd := none, tags := [] }
theorem F_zones_instant_cxok (fu : Nat) : (F_zones_instant_cx fu).Ok (bodyOf Try.f69) := ⟨(ents1 (F_dates_Weekday_ok fu) (ents1 F_dates_Validate_ok (ents1 F_basic_Failed_ok (ents1 (F_dates_Instant_ok fu) ents0)))), Try_mixed, Try.func69, tags0⟩
def F_zones_instant_l1 (r : Int → (Int × Int × Int × Int) → (Int × Int × Int × Int × Int × Int × Int) → Option Int) : Lab Int := ⟨[(0, [0, 1, 1, 1, 1, 1, 1]), (0, [1, 1, 1, 1, 1, 1, 1])], ⟨63, [(2, .h (.int .i64)), (3, .ptr 16 0), (7, .ptr 17 0)], [(16, .dat (.prod (.int .i64) (.prod (.int .i64) (.prod (.int .i64) (.int .i64)))) 23), (17, .dat (.prod (.int .i64) (.prod (.int .i64) (.prod (.int .i64) (.prod (.int .i64) (.prod (.int .i64) (.prod (.int .i64) (.int .i64))))))) 34)], 64, []⟩, fun d => r d.1.1 d.2.1 d.2.2.1⟩
def F_zones_instant_l0 (r : Int → Bool → (Int × Int × Int × Int) → (Int × Int × Int × Int × Int × Int × Int) → Option Int) : Lab Int := ⟨[(0, [1, 0, 1, 1, 1, 1, 1]), (0, [1, 1, 1, 1, 1, 1])], ⟨63, [(2, .h (.int .i64)), (3, .ptr 16 0), (7, .ptr 17 0), (46, .h .bool)], [(16, .dat (.prod (.int .i64) (.prod (.int .i64) (.prod (.int .i64) (.int .i64)))) 23), (17, .dat (.prod (.int .i64) (.prod (.int .i64) (.prod (.int .i64) (.prod (.int .i64) (.prod (.int .i64) (.prod (.int .i64) (.int .i64))))))) 34)], 64, []⟩, fun d => r d.1.1 d.1.2.2.2.1 d.2.1 d.2.2.1⟩
theorem F_zones_instant_p1_ok (fu : Nat) (d' : bden F_zones_instant_hp) : LabOk (F_zones_instant_cx fu) (bput F_zones_instant_hp d') F_zones_instant_out (bodyOf Try.f69) (F_zones_instant_l1 (F_zones_instant_p1 fu)) :=
  LabOk.of_run (labs := []) (F_zones_instant_cxok fu) (fun _ _ h => idsB_look h) labs0 (fun d => by kernel_rfl)
theorem F_zones_instant_p0_ok (fu : Nat) (d' : bden F_zones_instant_hp) : LabOk (F_zones_instant_cx fu) (bput F_zones_instant_hp d') F_zones_instant_out (bodyOf Try.f69) (F_zones_instant_l0 (F_zones_instant_p0 fu)) :=
  LabOk.of_run (labs := [F_zones_instant_l1 (F_zones_instant_p1 fu)]) (F_zones_instant_cxok fu) (fun _ _ h => idsB_look h) (labs1 (F_zones_instant_p1_ok fu d') labs0) (fun d => by kernel_rfl)
theorem F_zones_instant_ok (fu : Nat) : (F_zones_instant_ent (F_zones_instant fu)).Sound Try.prog :=
  Ent.sound_fn (cx := F_zones_instant_cx fu) (labs := [F_zones_instant_l0 (F_zones_instant_p0 fu)]) (F_zones_instant_cxok fu) rfl rfl rfl rfl Try.call69 (by kernel_rfl) (fun d' => (labs1 (F_zones_instant_p0_ok fu d') labs0)) (fun d d' => by kernel_rfl)
/- posthouse/zones.offset -/
def F_zones_offset_out : RS Int := .one (α := Int) (.h (.int .i64)) [] (fun r => (r, ())) (fun y => y.1) (fun _ => rfl)
def F_zones_offset_hp : List (Nat × BPt) := []
def F_zones_offset_args : List Pt := [.h (.prod .str (.prod (.int .i64) (.prod (.int .i64) (.prod (.prod (.int .i64) (.prod (.int .i64) (.prod (.int .i64) (.int .i64)))) (.prod (.int .i64) (.prod (.int .i64) (.prod (.int .i64) (.int .i64)))))))), .h (.int .i64), .h (.int .i64)]
def F_zones_offset_ent (r : ((List UInt8) × Int × Int × (Int × Int × Int × Int) × Int × Int × Int × Int) → Int → Int → Option Int) : Ent := { key := .fn 45, args := F_zones_offset_args, hp := F_zones_offset_hp, R := Int, F := fun d _ => r d.1 d.2.1 d.2.2.1, out := F_zones_offset_out }
noncomputable def F_zones_offset_cx (fu : Nat) : Cx := { P := Try.prog, tb := ⟨[F_zones_fixed_ent F_zones_fixed, F_zones_instant_ent (F_zones_instant fu)], etys, false⟩, fn := Try.f45, f := 45, ids := idsB F_zones_offset_hp, rd := none, tags := [] }
theorem F_zones_offset_cxok (fu : Nat) : (F_zones_offset_cx fu).Ok (bodyOf Try.f45) := ⟨(ents1 F_zones_fixed_ok (ents1 (F_zones_instant_ok fu) ents0)), Try_mixed, Try.func45, tags0⟩
def F_zones_offset_l2 (r : Int → Int → Int → Int → Bool → Int → ((List UInt8) × Int × Int × (Int × Int × Int × Int) × Int × Int × Int × Int) → Option Int) : Lab Int := ⟨[(0, [0, 1, 0, 0, 1, 0, 0, 1, 0, 1, 1, 1]), (0, [1, 1, 0, 0, 1, 0, 0, 1, 0, 1, 1, 1]), (1, [0, 1, 0, 0, 1, 0, 1, 1, 1]), (0, [1, 1, 0, 0, 1, 0, 1, 1, 1]), (2, [0, 1, 0, 1, 1, 1]), (1, [1, 0, 1, 1, 1]), (0, [1, 1, 1, 1])], ⟨70, [(1, .h (.int .i64)), (2, .h (.int .i64)), (3, .ptr 16 0), (7, .h (.int .i64)), (8, .h (.int .i64)), (9, .h .bool), (10, .h (.int .i64))], [(16, .dat (.prod .str (.prod (.int .i64) (.prod (.int .i64) (.prod (.prod (.int .i64) (.prod (.int .i64) (.prod (.int .i64) (.int .i64)))) (.prod (.int .i64) (.prod (.int .i64) (.prod (.int .i64) (.int .i64)))))))) 25)], 64, []⟩, fun d => r d.1.1 d.1.2.1 d.1.2.2.2.1 d.1.2.2.2.2.1 d.1.2.2.2.2.2.1 d.1.2.2.2.2.2.2.1 d.2.1⟩
def F_zones_offset_l1 (r : Int → Int → Int → Int → Bool → Int → Int → Bool → ((List UInt8) × Int × Int × (Int × Int × Int × Int) × Int × Int × Int × Int) → Option Int) : Lab Int := ⟨[(0, [1, 1, 0, 0, 0, 1, 0, 0, 1, 0, 1, 1, 1]), (0, [1, 0, 0, 1, 0, 0, 1, 0, 1, 1, 1]), (1, [0, 1, 0, 0, 1, 0, 1, 1, 1]), (0, [1, 1, 0, 0, 1, 0, 1, 1, 1]), (2, [0, 1, 0, 1, 1, 1]), (1, [1, 0, 1, 1, 1]), (0, [1, 1, 1, 1])], ⟨70, [(1, .h (.int .i64)), (2, .h (.int .i64)), (3, .ptr 16 0), (7, .h (.int .i64)), (8, .h (.int .i64)), (9, .h .bool), (10, .h (.int .i64)), (11, .h (.int .i64)), (44, .h .bool)], [(16, .dat (.prod .str (.prod (.int .i64) (.prod (.int .i64) (.prod (.prod (.int .i64) (.prod (.int .i64) (.prod (.int .i64) (.int .i64)))) (.prod (.int .i64) (.prod (.int .i64) (.prod (.int .i64) (.int .i64)))))))) 25)], 64, []⟩, fun d => r d.1.1 d.1.2.1 d.1.2.2.2.1 d.1.2.2.2.2.1 d.1.2.2.2.2.2.1 d.1.2.2.2.2.2.2.1 d.1.2.2.2.2.2.2.2.1 d.1.2.2.2.2.2.2.2.2.1 d.2.1⟩
def F_zones_offset_l0 (r : Int → Int → Int → Int → Bool → Int → ((List UInt8) × Int × Int × (Int × Int × Int × Int) × Int × Int × Int × Int) → Option Int) : Lab Int := ⟨[(0, [0, 0, 0, 0, 1, 0, 1, 1, 1]), (0, [1, 0, 0, 0, 1, 0, 1, 1, 1]), (0, [1, 0, 0, 1, 0, 1, 1, 1]), (2, [0, 1, 0, 1, 1, 1]), (1, [1, 0, 1, 1, 1]), (0, [1, 1, 1, 1])], ⟨70, [(1, .h (.int .i64)), (2, .h (.int .i64)), (3, .ptr 16 0), (7, .h (.int .i64)), (8, .h (.int .i64)), (9, .h .bool), (10, .h (.int .i64))], [(16, .dat (.prod .str (.prod (.int .i64) (.prod (.int .i64) (.prod (.prod (.int .i64) (.prod (.int .i64) (.prod (.int .i64) (.int .i64)))) (.prod (.int .i64) (.prod (.int .i64) (.prod (.int .i64) (.int .i64)))))))) 25)], 64, []⟩, fun d => r d.1.1 d.1.2.1 d.1.2.2.2.1 d.1.2.2.2.2.1 d.1.2.2.2.2.2.1 d.1.2.2.2.2.2.2.1 d.2.1⟩
theorem F_zones_offset_p2_ok (fu : Nat) (d' : bden F_zones_offset_hp) (r0 : Int → Int → Int → Int → Bool → Int → ((List UInt8) × Int × Int × (Int × Int × Int × Int) × Int × Int × Int × Int) → Option Int) (h0 : LabOk (F_zones_offset_cx fu) (bput F_zones_offset_hp d') F_zones_offset_out (bodyOf Try.f45) (F_zones_offset_l0 r0)) : LabOk (F_zones_offset_cx fu) (bput F_zones_offset_hp d') F_zones_offset_out (bodyOf Try.f45) (F_zones_offset_l2 (F_zones_offset_p2 fu r0)) :=
  LabOk.of_run (labs := [F_zones_offset_l0 (r0)]) (F_zones_offset_cxok fu) (fun _ _ h => idsB_look h) (labs1 h0 labs0) (fun d => by kernel_rfl)
theorem F_zones_offset_p1_ok (fu : Nat) (d' : bden F_zones_offset_hp) (r0 : Int → Int → Int → Int → Bool → Int → ((List UInt8) × Int × Int × (Int × Int × Int × Int) × Int × Int × Int × Int) → Option Int) (h0 : LabOk (F_zones_offset_cx fu) (bput F_zones_offset_hp d') F_zones_offset_out (bodyOf Try.f45) (F_zones_offset_l0 r0)) : LabOk (F_zones_offset_cx fu) (bput F_zones_offset_hp d') F_zones_offset_out (bodyOf Try.f45) (F_zones_offset_l1 (F_zones_offset_p1 fu r0)) :=
  LabOk.of_run (labs := [F_zones_offset_l2 (F_zones_offset_p2 fu r0)]) (F_zones_offset_cxok fu) (fun _ _ h => idsB_look h) (labs1 (F_zones_offset_p2_ok fu d' r0 h0) labs0) (fun d => by kernel_rfl)
theorem F_zones_offset_b0_ok (fu : Nat) (d' : bden F_zones_offset_hp) (r0 : Int → Int → Int → Int → Bool → Int → ((List UInt8) × Int × Int × (Int × Int × Int × Int) × Int × Int × Int × Int) → Option Int) (h0 : LabOk (F_zones_offset_cx fu) (bput F_zones_offset_hp d') F_zones_offset_out (bodyOf Try.f45) (F_zones_offset_l0 r0)) : LabOk (F_zones_offset_cx fu) (bput F_zones_offset_hp d') F_zones_offset_out (bodyOf Try.f45) (F_zones_offset_l0 (F_zones_offset_b0 fu r0)) :=
  LabOk.of_run (labs := [F_zones_offset_l1 (F_zones_offset_p1 fu r0)]) (F_zones_offset_cxok fu) (fun _ _ h => idsB_look h) (labs1 (F_zones_offset_p1_ok fu d' r0 h0) labs0) (fun d => by kernel_rfl)
theorem F_zones_offset_p0_ok (fu : Nat) (d' : bden F_zones_offset_hp) : ∀ n, LabOk (F_zones_offset_cx fu) (bput F_zones_offset_hp d') F_zones_offset_out (bodyOf Try.f45) (F_zones_offset_l0 (F_zones_offset_p0 fu n))
  | 0 => fun _ _ h => by cases h
  | n + 1 => F_zones_offset_b0_ok fu d' (F_zones_offset_p0 fu n) (F_zones_offset_p0_ok fu d' n)
theorem F_zones_offset_ok (fu : Nat) : (F_zones_offset_ent (F_zones_offset fu)).Sound Try.prog :=
  Ent.sound_fn (cx := F_zones_offset_cx fu) (labs := [F_zones_offset_l0 (F_zones_offset_p0 fu fu)]) (F_zones_offset_cxok fu) rfl rfl rfl rfl Try.call45 (by kernel_rfl) (fun d' => (labs1 (F_zones_offset_p0_ok fu d' fu) labs0)) (fun d d' => by kernel_rfl)
/- posthouse/zones.Offset -/
def F_zones_Offset_out : RS (Int × (Int × Int)) := .one (α := Int × (Int × Int)) (.tup [.h (.int .i64), .h (.prod (.int .i64) (.int .i64))]) [] (fun r => ((r.1, (r.2, ())), ())) (fun y => (y.1.1, y.1.2.1)) (fun _ => rfl)
def F_zones_Offset_hp : List (Nat × BPt) := []
def F_zones_Offset_args : List Pt := [.h (.prod .str (.prod (.int .i64) (.prod (.int .i64) (.prod (.prod (.int .i64) (.prod (.int .i64) (.prod (.int .i64) (.int .i64)))) (.prod (.int .i64) (.prod (.int .i64) (.prod (.int .i64) (.int .i64)))))))), .h (.int .i64)]
def F_zones_Offset_ent (r : ((List UInt8) × Int × Int × (Int × Int × Int × Int) × Int × Int × Int × Int) → Int → Option (Int × (Int × Int))) : Ent := { key := .fn 17, args := F_zones_Offset_args, hp := F_zones_Offset_hp, R := (Int × (Int × Int)), F := fun d _ => r d.1 d.2.1, out := F_zones_Offset_out }
noncomputable def F_zones_Offset_cx (fu : Nat) : Cx := { P := Try.prog, tb := ⟨[F_zones_Validate_ent (F_zones_Validate fu), F_basic_Failed_ent F_basic_Failed, F_basic_Time_ent F_basic_Time, F_basic_Fault_ent F_basic_Fault, F_dates_Civil_ent (F_dates_Civil fu), F_zones_within_ent F_zones_within, F_zones_offset_ent (F_zones_offset fu), F_basic_None_ent F_basic_None], etys, false⟩, fn := Try.f17, f := 17, ids := idsB F_zones_Offset_hp, rd := none, tags := [] }
theorem F_zones_Offset_cxok (fu : Nat) : (F_zones_Offset_cx fu).Ok (bodyOf Try.f17) := ⟨(ents1 (F_zones_Validate_ok fu) (ents1 F_basic_Failed_ok (ents1 F_basic_Time_ok (ents1 F_basic_Fault_ok (ents1 (F_dates_Civil_ok fu) (ents1 F_zones_within_ok (ents1 (F_zones_offset_ok fu) (ents1 F_basic_None_ok ents0)))))))), Try_mixed, Try.func17, tags0⟩
theorem F_zones_Offset_ok (fu : Nat) : (F_zones_Offset_ent (F_zones_Offset fu)).Sound Try.prog :=
  Ent.sound_fn (cx := F_zones_Offset_cx fu) (labs := []) (F_zones_Offset_cxok fu) rfl rfl rfl rfl Try.call17 (by kernel_rfl) (fun _ => labs0) (fun d d' => by kernel_rfl)
/- posthouse/zones.Instants -/
def F_zones_Instants_out : RS ((Int × Int) × (List Int)) := .one (α := (Int × Int) × (List Int)) (.tup [.own 0, .h (.prod (.int .i64) (.int .i64))]) [(0, .row (.int .i64) 3)] (fun r => (((), (r.1, ())), (r.2, ()))) (fun y => (y.1.2.1, y.2.1)) (fun _ => rfl)
def F_zones_Instants_hp : List (Nat × BPt) := []
def F_zones_Instants_args : List Pt := [.h (.prod .str (.prod (.int .i64) (.prod (.int .i64) (.prod (.prod (.int .i64) (.prod (.int .i64) (.prod (.int .i64) (.int .i64)))) (.prod (.int .i64) (.prod (.int .i64) (.prod (.int .i64) (.int .i64)))))))), .h (.prod (.int .i64) (.prod (.int .i64) (.prod (.int .i64) (.prod (.int .i64) (.prod (.int .i64) (.prod (.int .i64) (.int .i64)))))))]
def F_zones_Instants_ent (r : ((List UInt8) × Int × Int × (Int × Int × Int × Int) × Int × Int × Int × Int) → (Int × Int × Int × Int × Int × Int × Int) → Option ((Int × Int) × (List Int))) : Ent := { key := .fn 19, args := F_zones_Instants_args, hp := F_zones_Instants_hp, R := ((Int × Int) × (List Int)), F := fun d _ => r d.1 d.2.1, out := F_zones_Instants_out }
noncomputable def F_zones_Instants_cx (fu : Nat) : Cx := { P := Try.prog, tb := ⟨[F_zones_Validate_ent (F_zones_Validate fu), F_basic_Failed_ent F_basic_Failed, F_dates_Instant_ent (F_dates_Instant fu), F_basic_Fault_ent F_basic_Fault, F_zones_within_ent F_zones_within, F_zones_fixed_ent F_zones_fixed, F_zones_Offset_ent (F_zones_Offset fu), F_slices_Sort_ent F_slices_Sort, F_basic_None_ent F_basic_None], etys, false⟩, fn := Try.f19, f := 19, ids := idsB F_zones_Instants_hp, rd := none, tags := [] }
theorem F_zones_Instants_cxok (fu : Nat) : (F_zones_Instants_cx fu).Ok (bodyOf Try.f19) := ⟨(ents1 (F_zones_Validate_ok fu) (ents1 F_basic_Failed_ok (ents1 (F_dates_Instant_ok fu) (ents1 F_basic_Fault_ok (ents1 F_zones_within_ok (ents1 F_zones_fixed_ok (ents1 (F_zones_Offset_ok fu) (ents1 F_slices_Sort_ok (ents1 F_basic_None_ok ents0))))))))), Try_mixed, Try.func19, tags0⟩
def F_zones_Instants_l1 (r : Int → Int → Int → ((List UInt8) × Int × Int × (Int × Int × Int × Int) × Int × Int × Int × Int) → (Int × Int) → (List Int) → (List Int) → Option ((Int × Int) × (List Int))) : Lab ((Int × Int) × (List Int)) := ⟨[(0, [0, 0, 0, 1, 0, 1, 1, 1, 1, 1, 1, 1, 1, 1]), (0, [1, 0, 0, 1, 0, 1, 1, 1, 1, 1, 1, 1, 1, 1]), (2, [0, 1, 0, 1, 1, 1, 1, 1, 1, 1, 1, 1]), (1, [1, 0, 1, 1, 1, 1, 1, 1, 1, 1, 1]), (0, [1, 1, 1, 1, 1, 1, 1, 1, 1, 1])], ⟨82, [(2, .ptr 16 0), (5, .ptr 17 0), (7, .h (.int .i64)), (10, .own 19), (49, .own 18), (50, .h (.int .i64)), (51, .h (.int .i64))], [(16, .dat (.prod .str (.prod (.int .i64) (.prod (.int .i64) (.prod (.prod (.int .i64) (.prod (.int .i64) (.prod (.int .i64) (.int .i64)))) (.prod (.int .i64) (.prod (.int .i64) (.prod (.int .i64) (.int .i64)))))))) 25), (17, .dat (.prod (.int .i64) (.int .i64)) 28), (18, .row (.int .i64) 3), (19, .row (.int .i64) 3)], 64, []⟩, fun d => r d.1.2.2.1 d.1.2.2.2.2.2.1 d.1.2.2.2.2.2.2.1 d.2.1 d.2.2.1 d.2.2.2.1 d.2.2.2.2.1⟩
def F_zones_Instants_l0 (r : Int → ((List UInt8) × Int × Int × (Int × Int × Int × Int) × Int × Int × Int × Int) → (Int × Int) → (List Int) → Option ((Int × Int) × (List Int))) : Lab ((Int × Int) × (List Int)) := ⟨[(0, [0, 1, 1, 1, 1, 1, 1, 1, 1]), (0, [1, 1, 1, 1, 1, 1, 1, 1, 1])], ⟨82, [(2, .ptr 16 0), (5, .ptr 17 0), (7, .h (.int .i64)), (9, .own 18)], [(16, .dat (.prod .str (.prod (.int .i64) (.prod (.int .i64) (.prod (.prod (.int .i64) (.prod (.int .i64) (.prod (.int .i64) (.int .i64)))) (.prod (.int .i64) (.prod (.int .i64) (.prod (.int .i64) (.int .i64)))))))) 25), (17, .dat (.prod (.int .i64) (.int .i64)) 28), (18, .row (.int .i64) 3)], 64, []⟩, fun d => r d.1.2.2.1 d.2.1 d.2.2.1 d.2.2.2.1⟩
theorem F_zones_Instants_b1_ok (fu : Nat) (d' : bden F_zones_Instants_hp) (r1 : Int → Int → Int → ((List UInt8) × Int × Int × (Int × Int × Int × Int) × Int × Int × Int × Int) → (Int × Int) → (List Int) → (List Int) → Option ((Int × Int) × (List Int))) (h1 : LabOk (F_zones_Instants_cx fu) (bput F_zones_Instants_hp d') F_zones_Instants_out (bodyOf Try.f19) (F_zones_Instants_l1 r1)) : LabOk (F_zones_Instants_cx fu) (bput F_zones_Instants_hp d') F_zones_Instants_out (bodyOf Try.f19) (F_zones_Instants_l1 (F_zones_Instants_b1 fu r1)) :=
  LabOk.of_run (labs := [F_zones_Instants_l1 (r1)]) (F_zones_Instants_cxok fu) (fun _ _ h => idsB_look h) (labs1 h1 labs0) (fun d => by kernel_rfl)
theorem F_zones_Instants_p1_ok (fu : Nat) (d' : bden F_zones_Instants_hp) : ∀ n, LabOk (F_zones_Instants_cx fu) (bput F_zones_Instants_hp d') F_zones_Instants_out (bodyOf Try.f19) (F_zones_Instants_l1 (F_zones_Instants_p1 fu n))
  | 0 => fun _ _ h => by cases h
  | n + 1 => F_zones_Instants_b1_ok fu d' (F_zones_Instants_p1 fu n) (F_zones_Instants_p1_ok fu d' n)
theorem F_zones_Instants_p0_ok (fu : Nat) (d' : bden F_zones_Instants_hp) : LabOk (F_zones_Instants_cx fu) (bput F_zones_Instants_hp d') F_zones_Instants_out (bodyOf Try.f19) (F_zones_Instants_l0 (F_zones_Instants_p0 fu)) :=
  LabOk.of_run (labs := [F_zones_Instants_l1 (F_zones_Instants_p1 fu fu)]) (F_zones_Instants_cxok fu) (fun _ _ h => idsB_look h) (labs1 (F_zones_Instants_p1_ok fu d' fu) labs0) (fun d => by kernel_rfl)
theorem F_zones_Instants_ok (fu : Nat) : (F_zones_Instants_ent (F_zones_Instants fu)).Sound Try.prog :=
  Ent.sound_fn (cx := F_zones_Instants_cx fu) (labs := [F_zones_Instants_l0 (F_zones_Instants_p0 fu)]) (F_zones_Instants_cxok fu) rfl rfl rfl rfl Try.call19 (by kernel_rfl) (fun d' => (labs1 (F_zones_Instants_p0_ok fu d') labs0)) (fun d d' => by kernel_rfl)
/- posthouse/posthouseref1.Ints -/
def F_R1_Ints_out : RS Bool := .one (α := Bool) (.h .bool) [] (fun r => (r, ())) (fun y => y.1) (fun _ => rfl)
def F_R1_Ints_hp : List (Nat × BPt) := []
def F_R1_Ints_args : List Pt := [.h (.list (.int .i64)), .h (.list (.int .i64))]
def F_R1_Ints_ent (r : (List Int) → (List Int) → Option Bool) : Ent := { key := .fn 21, args := F_R1_Ints_args, hp := F_R1_Ints_hp, R := Bool, F := fun d _ => r d.1 d.2.1, out := F_R1_Ints_out }
noncomputable def F_R1_Ints_cx (fu : Nat) : Cx := { P := Try.prog, tb := ⟨[], etys, false⟩, fn := Try.f21, f := 21, ids := idsB F_R1_Ints_hp, rd := none, tags := [] }
theorem F_R1_Ints_cxok (fu : Nat) : (F_R1_Ints_cx fu).Ok (bodyOf Try.f21) := ⟨ents0, Try_mixed, Try.func21, tags0⟩
def F_R1_Ints_l0 (r : (List Int) → (List Int) → Int → Option Bool) : Lab Bool := ⟨[(0, [0, 0, 0, 0, 1, 0, 1, 1]), (0, [1, 0, 0, 0, 1, 0, 1, 1]), (0, [1, 0, 0, 1, 0, 1, 1]), (2, [0, 1, 0, 1, 1]), (1, [1, 0, 1, 1]), (0, [1, 1, 1])], ⟨26, [(0, .h (.list (.int .i64))), (1, .h (.list (.int .i64))), (5, .h (.int .i64))], [], 64, []⟩, fun d => r d.1.1 d.1.2.1 d.1.2.2.1⟩
theorem F_R1_Ints_b0_ok (fu : Nat) (d' : bden F_R1_Ints_hp) (r0 : (List Int) → (List Int) → Int → Option Bool) (h0 : LabOk (F_R1_Ints_cx fu) (bput F_R1_Ints_hp d') F_R1_Ints_out (bodyOf Try.f21) (F_R1_Ints_l0 r0)) : LabOk (F_R1_Ints_cx fu) (bput F_R1_Ints_hp d') F_R1_Ints_out (bodyOf Try.f21) (F_R1_Ints_l0 (F_R1_Ints_b0 fu r0)) :=
  LabOk.of_run (labs := [F_R1_Ints_l0 (r0)]) (F_R1_Ints_cxok fu) (fun _ _ h => idsB_look h) (labs1 h0 labs0) (fun d => by kernel_rfl)
theorem F_R1_Ints_p0_ok (fu : Nat) (d' : bden F_R1_Ints_hp) : ∀ n, LabOk (F_R1_Ints_cx fu) (bput F_R1_Ints_hp d') F_R1_Ints_out (bodyOf Try.f21) (F_R1_Ints_l0 (F_R1_Ints_p0 fu n))
  | 0 => fun _ _ h => by cases h
  | n + 1 => F_R1_Ints_b0_ok fu d' (F_R1_Ints_p0 fu n) (F_R1_Ints_p0_ok fu d' n)
theorem F_R1_Ints_ok (fu : Nat) : (F_R1_Ints_ent (F_R1_Ints fu)).Sound Try.prog :=
  Ent.sound_fn (cx := F_R1_Ints_cx fu) (labs := [F_R1_Ints_l0 (F_R1_Ints_p0 fu fu)]) (F_R1_Ints_cxok fu) rfl rfl rfl rfl Try.call21 (by kernel_rfl) (fun d' => (labs1 (F_R1_Ints_p0_ok fu d' fu) labs0)) (fun d d' => by kernel_rfl)
/- posthouse/posthouselaw2.zonesExample -/
def F_W2_zonesExample_out : RS Bool := .one (α := Bool) (.h .bool) [] (fun r => (r, ())) (fun y => y.1) (fun _ => rfl)
def F_W2_zonesExample_hp : List (Nat × BPt) := []
def F_W2_zonesExample_args : List Pt := []
def F_W2_zonesExample_ent (r : Option Bool) : Ent := { key := .fn 14, args := F_W2_zonesExample_args, hp := F_W2_zonesExample_hp, R := Bool, F := fun _ _ => r, out := F_W2_zonesExample_out }
noncomputable def F_W2_zonesExample_cx (fu : Nat) : Cx := { P := Try.prog, tb := ⟨[F_W2_spring_ent F_W2_spring, F_zones_Offset_ent (F_zones_Offset fu), F_zones_Instants_ent (F_zones_Instants fu), F_R1_Ints_ent (F_R1_Ints fu)], etys, false⟩, fn := Try.f14, f := 14, ids := idsB F_W2_zonesExample_hp, rd := none, tags := [] }
theorem F_W2_zonesExample_cxok (fu : Nat) : (F_W2_zonesExample_cx fu).Ok (bodyOf Try.f14) := ⟨(ents1 F_W2_spring_ok (ents1 (F_zones_Offset_ok fu) (ents1 (F_zones_Instants_ok fu) (ents1 (F_R1_Ints_ok fu) ents0)))), Try_mixed, Try.func14, tags0⟩
theorem F_W2_zonesExample_ok (fu : Nat) : (F_W2_zonesExample_ent (F_W2_zonesExample fu)).Sound Try.prog :=
  Ent.sound_fn (cx := F_W2_zonesExample_cx fu) (labs := []) (F_W2_zonesExample_cxok fu) rfl rfl rfl rfl Try.call14 (by kernel_rfl) (fun _ => labs0) (fun d d' => by kernel_rfl)
end Go.Sym
