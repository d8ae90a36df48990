/- Plain functions that the Go functions compute: printed by a program out of the translation. -/
import Derived.Test.YtlfafgmhjplbeaaSymQ
namespace Go.Sym
set_option linter.unusedVariables false
structure T_api_Turn where
  fMonth : Int
  fWeek : Int
  fWeekday : Int
  fMinute : Int
  deriving DecidableEq
def e_T_api_Turn (x : T_api_Turn) : List AV := [.int .i64 x.fMonth, .int .i64 x.fWeek, .int .i64 x.fWeekday, .int .i64 x.fMinute]
structure T_api_Zone where
  fName : List UInt8
  fStandard : Int
  fSummer : Int
  fBegin : T_api_Turn
  fEnd : T_api_Turn
  deriving DecidableEq
def e_T_api_Zone (x : T_api_Zone) : List AV := [.str x.fName, .int .i64 x.fStandard, .int .i64 x.fSummer, .int .i64 x.fBegin.fMonth, .int .i64 x.fBegin.fWeek, .int .i64 x.fBegin.fWeekday, .int .i64 x.fBegin.fMinute, .int .i64 x.fEnd.fMonth, .int .i64 x.fEnd.fWeek, .int .i64 x.fEnd.fWeekday, .int .i64 x.fEnd.fMinute]
structure T_api_Fault where
  fCode : Int
  fIndex : Int
  deriving DecidableEq
def e_T_api_Fault (x : T_api_Fault) : List AV := [.int .i64 x.fCode, .int .i64 x.fIndex]
structure T_api_Date where
  fYear : Int
  fMonth : Int
  fDay : Int
  fHour : Int
  fMinute : Int
  fSecond : Int
  fZone : Int
  deriving DecidableEq
def e_T_api_Date (x : T_api_Date) : List AV := [.int .i64 x.fYear, .int .i64 x.fMonth, .int .i64 x.fDay, .int .i64 x.fHour, .int .i64 x.fMinute, .int .i64 x.fSecond, .int .i64 x.fZone]
/- posthouse/posthouselaw2.spring -/
def F_W2_spring : Option ((T_api_Zone)) :=
  some (T_api_Zone.mk [122] 60 120 (T_api_Turn.mk 3 5 0 120) (T_api_Turn.mk 10 5 0 180))
/- posthouse/basic.Letter -/
def F_basic_Letter (p0 : UInt8) : Option ((Bool)) :=
  bif decide ((97 : UInt8) ≤ p0) then
    bif decide (p0 ≤ (122 : UInt8)) then
      some true
    else
      bif decide ((65 : UInt8) ≤ p0) then
        bif decide (p0 ≤ (90 : UInt8)) then
          some true
        else
          bif decide ((48 : UInt8) ≤ p0) then
            some (decide (p0 ≤ (57 : UInt8)))
          else
            some false
      else
        bif decide ((48 : UInt8) ≤ p0) then
          some (decide (p0 ≤ (57 : UInt8)))
        else
          some false
  else
    bif decide ((65 : UInt8) ≤ p0) then
      bif decide (p0 ≤ (90 : UInt8)) then
        some true
      else
        bif decide ((48 : UInt8) ≤ p0) then
          some (decide (p0 ≤ (57 : UInt8)))
        else
          some false
    else
      bif decide ((48 : UInt8) ≤ p0) then
        some (decide (p0 ≤ (57 : UInt8)))
      else
        some false
/- posthouse/basic.Name$1 -/
def F_basic_Name_1 (p0 : UInt8) : Option ((Bool)) :=
  (F_basic_Letter p0).bind fun x1 =>
  bif x1 then
    some true
  else
    bif p0 == (45 : UInt8) then
      some true
    else
      bif p0 == (95 : UInt8) then
        some true
      else
        some (p0 == (46 : UInt8))
/- posthouse/basic.All -/
def F_basic_All_67_b0 (r0 : (List UInt8) → Int → Int → Option ((Bool))) (fu : Nat) (s0 : List UInt8) (s7 : Int) (s8 : Int) : Option ((Bool)) :=
  bif decide (s8 < s7) then
    (idx s0 s8).bind fun c2 =>
    (F_basic_Name_1 c2).bind fun x4 =>
    bif !x4 then
      some false
    else
      r0 s0 s7 (w64 (s8 + 1))
  else
    some true
def F_basic_All_67_p0 (fu : Nat) : Nat → (List UInt8) → Int → Int → Option ((Bool))
  | 0, _, _, _ => none
  | n + 1, s0, s7, s8 => F_basic_All_67_b0 (F_basic_All_67_p0 fu n) fu s0 s7 s8
def F_basic_All_67 (fu : Nat) (p0 : List UInt8) : Option ((Bool)) :=
  F_basic_All_67_p0 fu fu p0 (List.length p0 : Int) 0
/- posthouse/basic.Name -/
def F_basic_Name (fu : Nat) (p0 : List UInt8) : Option ((Bool)) :=
  bif !(p0 == ([] : List UInt8)) then
    bif decide ((List.length p0 : Int) ≤ (60 : Int)) then
      (F_basic_All_67 fu p0).bind fun x3 =>
      some x3
    else
      some false
  else
    some false
/- posthouse/basic.Fault -/
def F_basic_Fault (p0 : Int) (p1 : Int) : Option ((T_api_Fault)) :=
  some (T_api_Fault.mk p0 p1)
/- posthouse/zones.within -/
def F_zones_within (p0 : Int) (p1 : Int) (p2 : Int) : Option ((Bool)) :=
  bif decide (p1 ≤ p0) then
    some (decide (p0 ≤ p2))
  else
    some false
/- posthouse/zones.fixed -/
def F_zones_fixed (p0 : T_api_Zone) : Option ((Bool)) :=
  some ((p0.fBegin.fMonth == (0 : Int)) && ((p0.fBegin.fWeek == (0 : Int)) && ((p0.fBegin.fWeekday == (0 : Int)) && ((p0.fBegin.fMinute == (0 : Int)) && true))))
/- posthouse/basic.None -/
def F_basic_None : Option ((T_api_Fault)) :=
  some (T_api_Fault.mk 0 0)
/- posthouse/zones.turn -/
def F_zones_turn (p0 : T_api_Turn) : Option ((Bool)) :=
  (F_zones_within p0.fMonth 1 12).bind fun x1 =>
  bif x1 then
    (F_zones_within p0.fWeek 1 5).bind fun x4 =>
    bif x4 then
      (F_zones_within p0.fWeekday 0 6).bind fun x7 =>
      bif x7 then
        (F_zones_within p0.fMinute 0 1439).bind fun x10 =>
        some x10
      else
        some false
    else
      some false
  else
    some false
/- posthouse/zones.Validate -/
def F_zones_Validate (fu : Nat) (p0 : T_api_Zone) : Option ((T_api_Fault)) :=
  (F_basic_Name fu p0.fName).bind fun x1 =>
  bif !x1 then
    (F_basic_Fault 10 (-3)).bind fun x4 =>
    some x4
  else
    (F_zones_within p0.fStandard (-900) 900).bind fun x6 =>
    bif !x6 then
      (F_basic_Fault 3 (-4)).bind fun x9 =>
      some x9
    else
      (F_zones_fixed p0).bind fun x11 =>
      bif x11 then
        bif p0.fSummer != (0 : Int) then
          (F_basic_Fault 5 (-5)).bind fun x15 =>
          some x15
        else
          bif !((p0.fEnd.fMonth == (0 : Int)) && ((p0.fEnd.fWeek == (0 : Int)) && ((p0.fEnd.fWeekday == (0 : Int)) && ((p0.fEnd.fMinute == (0 : Int)) && true)))) then
            (F_basic_Fault 5 (-5)).bind fun x18 =>
            some x18
          else
            (F_basic_None).bind fun x20 =>
            some x20
      else
        (F_zones_within p0.fSummer (-900) 900).bind fun x22 =>
        bif !x22 then
          (F_basic_Fault 3 (-5)).bind fun x25 =>
          some x25
        else
          (F_zones_within p0.fSummer (w64 (p0.fStandard + 1)) (w64 (p0.fStandard + 180))).bind fun x27 =>
          bif !x27 then
            (F_basic_Fault 3 (-5)).bind fun x30 =>
            some x30
          else
            (F_zones_turn p0.fBegin).bind fun x32 =>
            bif !x32 then
              (F_basic_Fault 3 (-6)).bind fun x35 =>
              some x35
            else
              (F_zones_turn p0.fEnd).bind fun x37 =>
              bif !x37 then
                (F_basic_Fault 3 (-7)).bind fun x40 =>
                some x40
              else
                bif p0.fBegin.fMonth == p0.fEnd.fMonth then
                  (F_basic_Fault 5 (-7)).bind fun x43 =>
                  some x43
                else
                  (F_basic_None).bind fun x45 =>
                  some x45
/- posthouse/basic.Failed -/
def F_basic_Failed (p0 : T_api_Fault) : Option ((Bool)) :=
  some (p0.fCode != (0 : Int))
/- posthouse/basic.Time -/
def F_basic_Time (p0 : Int) : Option ((Bool)) :=
  bif decide ((-68719476736 : Int) ≤ p0) then
    some (decide (p0 ≤ (68719476736 : Int)))
  else
    some false
/- posthouse/dates.within -/
def F_dates_within (p0 : Int) (p1 : Int) (p2 : Int) : Option ((Bool)) :=
  bif decide (p1 ≤ p0) then
    some (decide (p0 ≤ p2))
  else
    some false
/- posthouse/dates.split -/
def F_dates_split (p0 : Int) (p1 : Int) : Option ((Int) × (Int)) :=
  if p1 ≠ 0 then
  some (w64 (Int.tdiv (w64 (p0 - (Int.tmod (w64 ((Int.tmod p0 p1) + p1)) p1))) p1), Int.tmod (w64 ((Int.tmod p0 p1) + p1)) p1)
  else none
/- posthouse/dates.before -/
def F_dates_before (p0 : Int) : Option ((Int)) :=
  some (w64 ((w64 ((w64 ((w64 (365 * (w64 (p0 - 1)))) + (w64 (Int.tdiv (w64 (p0 - 1)) (4 : Int))))) - (w64 (Int.tdiv (w64 (p0 - 1)) (100 : Int))))) + (w64 (Int.tdiv (w64 (p0 - 1)) (400 : Int)))))
/- posthouse/dates.leap -/
def F_dates_leap (p0 : Int) : Option ((Bool)) :=
  bif (Int.tmod p0 (4 : Int)) == (0 : Int) then
    bif (Int.tmod p0 (100 : Int)) != (0 : Int) then
      some true
    else
      some ((Int.tmod p0 (400 : Int)) == (0 : Int))
  else
    some false
/- posthouse/dates.length -/
def F_dates_length (p0 : Int) (p1 : Int) : Option ((Int)) :=
  (idx ([31, 28, 31, 30, 31, 30, 31, 31, 30, 31, 30, 31] : List (Int)) (w64 (p1 - 1))).bind fun y1 =>
  bif p1 == (2 : Int) then
    (F_dates_leap p0).bind fun x4 =>
    bif x4 then
      some (w64 (y1 + 1))
    else
      some y1
  else
    some y1
/- posthouse/dates.day -/
def F_dates_day_b0 (r0 : Int → Int → Int → Int → Option ((Int))) (fu : Nat) (s0 : Int) (s1 : Int) (s7 : Int) (s8 : Int) : Option ((Int)) :=
  bif decide (s8 < s1) then
    (F_dates_length s0 s8).bind fun x2 =>
    r0 s0 s1 (w64 (s7 + x2)) (w64 (s8 + 1))
  else
    some s7
def F_dates_day_p0 (fu : Nat) : Nat → Int → Int → Int → Int → Option ((Int))
  | 0, _, _, _, _ => none
  | n + 1, s0, s1, s7, s8 => F_dates_day_b0 (F_dates_day_p0 fu n) fu s0 s1 s7 s8
def F_dates_day (fu : Nat) (p0 : Int) (p1 : Int) (p2 : Int) : Option ((Int)) :=
  (F_dates_before p0).bind fun x1 =>
  (F_dates_before 1970).bind fun x3 =>
  F_dates_day_p0 fu fu p0 p1 (w64 ((w64 ((w64 (x1 - x3)) + p2)) - 1)) 1
/- posthouse/dates.Civil -/
def F_dates_Civil_p1 (r0 : Int → Int → Int → Int → Int → Option ((T_api_Date) × (T_api_Fault))) (fu : Nat) (s1 : Int) (s6 : Int) (s7 : Int) (s8 : Int) (s9 : Int) : Option ((T_api_Date) × (T_api_Fault)) :=
  r0 s1 s6 s7 s8 (w64 (Int.tdiv s9 (2 : Int)))
def F_dates_Civil_b2 (r2 : Int → Int → Int → Int → Int → Option ((T_api_Date) × (T_api_Fault))) (fu : Nat) (s1 : Int) (s6 : Int) (s7 : Int) (s8 : Int) (s10 : Int) : Option ((T_api_Date) × (T_api_Fault)) :=
  (F_dates_day fu s8 s10 1).bind fun x1 =>
  bif decide (s6 < x1) then
    r2 s1 s6 s7 s8 (w64 (s10 - 1))
  else
    (F_dates_day fu s8 s10 1).bind fun x4 =>
    (F_basic_None).bind fun x6 =>
    some ((T_api_Date.mk s8 s10 (w64 ((w64 (s6 - x4)) + 1)) (w64 (Int.tdiv s7 (3600 : Int))) (Int.tmod (w64 (Int.tdiv s7 (60 : Int))) (60 : Int)) (Int.tmod s7 (60 : Int)) s1), x6)
def F_dates_Civil_p2 (fu : Nat) : Nat → Int → Int → Int → Int → Int → Option ((T_api_Date) × (T_api_Fault))
  | 0, _, _, _, _, _ => none
  | n + 1, s1, s6, s7, s8, s10 => F_dates_Civil_b2 (F_dates_Civil_p2 fu n) fu s1 s6 s7 s8 s10
def F_dates_Civil_b0 (r0 : Int → Int → Int → Int → Int → Option ((T_api_Date) × (T_api_Fault))) (fu : Nat) (s1 : Int) (s6 : Int) (s7 : Int) (s8 : Int) (s9 : Int) : Option ((T_api_Date) × (T_api_Fault)) :=
  bif decide ((0 : Int) < s9) then
    bif decide ((w64 (s8 + s9)) ≤ (4000 : Int)) then
      (F_dates_day fu (w64 (s8 + s9)) 1 1).bind fun x3 =>
      bif decide (x3 ≤ s6) then
        F_dates_Civil_p1 r0 fu s1 s6 s7 (w64 (s8 + s9)) s9
      else
        r0 s1 s6 s7 s8 (w64 (Int.tdiv s9 (2 : Int)))
    else
      r0 s1 s6 s7 s8 (w64 (Int.tdiv s9 (2 : Int)))
  else
    F_dates_Civil_p2 fu fu s1 s6 s7 s8 12
def F_dates_Civil_p0 (fu : Nat) : Nat → Int → Int → Int → Int → Int → Option ((T_api_Date) × (T_api_Fault))
  | 0, _, _, _, _, _ => none
  | n + 1, s1, s6, s7, s8, s9 => F_dates_Civil_b0 (F_dates_Civil_p0 fu n) fu s1 s6 s7 s8 s9
def F_dates_Civil (fu : Nat) (p0 : Int) (p1 : Int) : Option ((T_api_Date) × (T_api_Fault)) :=
  (F_basic_Time p0).bind fun x1 =>
  bif !x1 then
    (F_basic_Fault 3 (-2)).bind fun x4 =>
    some ((T_api_Date.mk 0 0 0 0 0 0 0), x4)
  else
    (F_dates_within p1 (-900) 900).bind fun x6 =>
    bif !x6 then
      (F_basic_Fault 3 (-4)).bind fun x9 =>
      some ((T_api_Date.mk 0 0 0 0 0 0 0), x9)
    else
      (F_dates_split (w64 (p0 + (w64 (60 * p1)))) 86400).bind fun x11 =>
      (F_dates_day fu 1 1 1).bind fun x13 =>
      bif decide (x11.1 < x13) then
        (F_basic_Fault 3 (-3)).bind fun x16 =>
        some ((T_api_Date.mk 0 0 0 0 0 0 0), x16)
      else
        (F_dates_day fu 4000 12 31).bind fun x18 =>
        bif decide (x18 < x11.1) then
          (F_basic_Fault 3 (-3)).bind fun x21 =>
          some ((T_api_Date.mk 0 0 0 0 0 0 0), x21)
        else
          F_dates_Civil_p0 fu fu p1 x11.1 x11.2 1 2048
/- posthouse/dates.Validate -/
def F_dates_Validate (p0 : T_api_Date) : Option ((T_api_Fault)) :=
  (F_dates_within p0.fYear 1 4000).bind fun x1 =>
  bif x1 then
    (F_dates_within p0.fMonth 1 12).bind fun x4 =>
    bif x4 then
      (F_dates_length p0.fYear (if (12 : Int) < (if (1 : Int) > p0.fMonth then 1 else p0.fMonth) then 12 else if (1 : Int) > p0.fMonth then 1 else p0.fMonth)).bind fun x7 =>
      (F_dates_within p0.fDay 1 x7).bind fun x9 =>
      bif x9 then
        (F_dates_within p0.fHour 0 23).bind fun x12 =>
        bif x12 then
          (F_dates_within p0.fMinute 0 59).bind fun x15 =>
          bif x15 then
            (F_dates_within p0.fSecond 0 59).bind fun x18 =>
            bif x18 then
              (F_dates_within p0.fZone (-900) 900).bind fun x21 =>
              bif !x21 then
                (F_basic_Fault 3 (-3)).bind fun x24 =>
                some x24
              else
                (F_basic_None).bind fun x26 =>
                some x26
            else
              (F_basic_Fault 3 (-3)).bind fun x28 =>
              some x28
          else
            (F_basic_Fault 3 (-3)).bind fun x30 =>
            some x30
        else
          (F_basic_Fault 3 (-3)).bind fun x32 =>
          some x32
      else
        (F_basic_Fault 3 (-3)).bind fun x34 =>
        some x34
    else
      (F_basic_Fault 3 (-3)).bind fun x36 =>
      some x36
  else
    (F_basic_Fault 3 (-3)).bind fun x38 =>
    some x38
/- posthouse/dates.Weekday -/
def F_dates_Weekday (fu : Nat) (p0 : T_api_Date) : Option ((Int) × (T_api_Fault)) :=
  (F_dates_Validate p0).bind fun x1 =>
  (F_basic_Failed x1).bind fun x3 =>
  bif x3 then
    some (0, x1)
  else
    (F_dates_day fu p0.fYear p0.fMonth p0.fDay).bind fun x6 =>
    (F_dates_split (w64 (x6 + 4)) 7).bind fun x8 =>
    (F_basic_None).bind fun x10 =>
    some (x8.2, x10)
/- posthouse/dates.Instant -/
def F_dates_Instant (fu : Nat) (p0 : T_api_Date) : Option ((Int) × (T_api_Fault)) :=
  (F_dates_Validate p0).bind fun x1 =>
  (F_basic_Failed x1).bind fun x3 =>
  bif x3 then
    some (0, x1)
  else
    (F_dates_day fu p0.fYear p0.fMonth p0.fDay).bind fun x6 =>
    (F_basic_None).bind fun x8 =>
    some (w64 ((w64 ((w64 ((w64 (x6 * 86400)) + (w64 (p0.fHour * 3600)))) + (w64 ((w64 (p0.fMinute - p0.fZone)) * 60)))) + p0.fSecond), x8)
/- posthouse/zones.instant -/
def F_zones_instant_p0 (fu : Nat) (s2 : Int) (m0 : T_api_Turn) (m1_0 : Int) (m1_1 : Int) (m1_2 : Int) : Option ((Int)) :=
  (F_dates_Instant fu (T_api_Date.mk m1_0 m1_1 m1_2 0 0 0 0)).bind fun x1 =>
  some (w64 (x1.1 + (w64 (60 * (w64 (m0.fMinute - s2))))))
def F_zones_instant (fu : Nat) (p0 : T_api_Turn) (p1 : Int) (p2 : Int) : Option ((Int)) :=
  (F_dates_Weekday fu (T_api_Date.mk p1 p0.fMonth 1 0 0 0 0)).bind fun x1 =>
  bif p0.fWeek == (5 : Int) then
    (F_dates_Validate (T_api_Date.mk p1 p0.fMonth (w64 ((w64 (1 + (Int.tmod (w64 ((w64 (p0.fWeekday - x1.1)) + 7)) (7 : Int)))) + (w64 (7 * (w64 (p0.fWeek - 1)))))) 0 0 0 0)).bind fun x4 =>
    (F_basic_Failed x4).bind fun x6 =>
    bif x6 then
      F_zones_instant_p0 fu p2 p0 p1 p0.fMonth (w64 ((w64 ((w64 (1 + (Int.tmod (w64 ((w64 (p0.fWeekday - x1.1)) + 7)) (7 : Int)))) + (w64 (7 * (w64 (p0.fWeek - 1)))))) - 7))
    else
      (F_dates_Instant fu (T_api_Date.mk p1 p0.fMonth (w64 ((w64 (1 + (Int.tmod (w64 ((w64 (p0.fWeekday - x1.1)) + 7)) (7 : Int)))) + (w64 (7 * (w64 (p0.fWeek - 1)))))) 0 0 0 0)).bind fun x9 =>
      some (w64 (x9.1 + (w64 (60 * (w64 (p0.fMinute - p2))))))
  else
    (F_dates_Instant fu (T_api_Date.mk p1 p0.fMonth (w64 ((w64 (1 + (Int.tmod (w64 ((w64 (p0.fWeekday - x1.1)) + 7)) (7 : Int)))) + (w64 (7 * (w64 (p0.fWeek - 1)))))) 0 0 0 0)).bind fun x11 =>
    some (w64 (x11.1 + (w64 (60 * (w64 (p0.fMinute - p2))))))
/- posthouse/zones.offset -/
def F_zones_offset_p1 (r0 : Int → Int → Int → Int → Bool → Int → T_api_Zone → Option ((Int))) (fu : Nat) (s1 : Int) (s2 : Int) (s7 : Int) (s8 : Int) (s10 : Int) (m0 : T_api_Zone) : Option ((Int)) :=
  (F_zones_instant fu m0.fEnd s10 m0.fSummer).bind fun x1 =>
  bif decide (x1 ≤ s1) then
    bif decide (s7 ≤ x1) then
      r0 s1 s2 x1 m0.fStandard true (w64 (s10 + 1)) m0
    else
      r0 s1 s2 s7 s8 true (w64 (s10 + 1)) m0
  else
    r0 s1 s2 s7 s8 true (w64 (s10 + 1)) m0
def F_zones_offset_b0 (r0 : Int → Int → Int → Int → Bool → Int → T_api_Zone → Option ((Int))) (fu : Nat) (s1 : Int) (s2 : Int) (s7 : Int) (s8 : Int) (s9 : Bool) (s10 : Int) (m0 : T_api_Zone) : Option ((Int)) :=
  bif decide (s10 ≤ (w64 (s2 + 1))) then
    (F_zones_instant fu m0.fBegin s10 m0.fStandard).bind fun x2 =>
    bif decide (x2 ≤ s1) then
      bif !s9 then
        F_zones_offset_p1 r0 fu s1 s2 x2 m0.fSummer s10 m0
      else
        bif decide (s7 < x2) then
          F_zones_offset_p1 r0 fu s1 s2 x2 m0.fSummer s10 m0
        else
          (F_zones_instant fu m0.fEnd s10 m0.fSummer).bind fun x7 =>
          bif decide (x7 ≤ s1) then
            bif decide (s7 ≤ x7) then
              r0 s1 s2 x7 m0.fStandard true (w64 (s10 + 1)) m0
            else
              r0 s1 s2 s7 s8 s9 (w64 (s10 + 1)) m0
          else
            r0 s1 s2 s7 s8 s9 (w64 (s10 + 1)) m0
    else
      (F_zones_instant fu m0.fEnd s10 m0.fSummer).bind fun x11 =>
      bif decide (x11 ≤ s1) then
        bif !s9 then
          r0 s1 s2 x11 m0.fStandard true (w64 (s10 + 1)) m0
        else
          bif decide (s7 ≤ x11) then
            r0 s1 s2 x11 m0.fStandard true (w64 (s10 + 1)) m0
          else
            r0 s1 s2 s7 s8 s9 (w64 (s10 + 1)) m0
      else
        r0 s1 s2 s7 s8 s9 (w64 (s10 + 1)) m0
  else
    some s8
def F_zones_offset_p0 (fu : Nat) : Nat → Int → Int → Int → Int → Bool → Int → T_api_Zone → Option ((Int))
  | 0, _, _, _, _, _, _, _ => none
  | n + 1, s1, s2, s7, s8, s9, s10, m0 => F_zones_offset_b0 (F_zones_offset_p0 fu n) fu s1 s2 s7 s8 s9 s10 m0
def F_zones_offset (fu : Nat) (p0 : T_api_Zone) (p1 : Int) (p2 : Int) : Option ((Int)) :=
  (F_zones_fixed p0).bind fun x1 =>
  bif x1 then
    some p0.fStandard
  else
    F_zones_offset_p0 fu fu p1 p2 0 p0.fStandard false (w64 (p2 - 1)) p0
/- posthouse/zones.Offset -/
def F_zones_Offset (fu : Nat) (p0 : T_api_Zone) (p1 : Int) : Option ((Int) × (T_api_Fault)) :=
  (F_zones_Validate fu p0).bind fun x1 =>
  (F_basic_Failed x1).bind fun x3 =>
  bif x3 then
    some (0, x1)
  else
    (F_basic_Time p1).bind fun x6 =>
    bif !x6 then
      (F_basic_Fault 3 (-2)).bind fun x9 =>
      some (0, x9)
    else
      (F_dates_Civil fu p1 p0.fStandard).bind fun x11 =>
      (F_basic_Failed x11.2).bind fun x13 =>
      bif x13 then
        (F_basic_Fault 3 (-8)).bind fun x16 =>
        some (0, x16)
      else
        (F_zones_within x11.1.fYear 2 3999).bind fun x18 =>
        bif !x18 then
          (F_basic_Fault 3 (-8)).bind fun x21 =>
          some (0, x21)
        else
          (F_zones_offset fu p0 p1 x11.1.fYear).bind fun x23 =>
          (F_basic_None).bind fun x25 =>
          some (x23, x25)
/- posthouse/zones.Instants -/
def F_zones_Instants_b1 (r1 : Int → Int → Int → T_api_Zone → T_api_Fault → (List (Int)) → (List (Int)) → Option ((List (Int)) × (T_api_Fault))) (fu : Nat) (s7 : Int) (s50 : Int) (s51 : Int) (m0 : T_api_Zone) (m1 : T_api_Fault) (m2 : List (Int)) (m3 : List (Int)) : Option ((List (Int)) × (T_api_Fault)) :=
  bif decide (s51 < s50) then
    (idx m3 s51).bind fun y2 =>
    (F_zones_Offset fu m0 (w64 (s7 - (w64 (60 * y2))))).bind fun x4 =>
    (F_basic_Failed x4.2).bind fun x6 =>
    bif !x6 then
      bif x4.1 == y2 then
        if List.length (m2 ++ ([w64 (s7 - (w64 (60 * y2)))] : List (Int))) ≤ rowMax then
        r1 s7 s50 (w64 (s51 + 1)) m0 m1 (m2 ++ ([w64 (s7 - (w64 (60 * y2)))] : List (Int))) m3
        else none
      else
        r1 s7 s50 (w64 (s51 + 1)) m0 m1 m2 m3
    else
      r1 s7 s50 (w64 (s51 + 1)) m0 m1 m2 m3
  else
    if List.length m2 ≤ rowMax then
    (F_basic_None).bind fun x12 =>
    some (sorted m2, x12)
    else none
def F_zones_Instants_p1 (fu : Nat) : Nat → Int → Int → Int → T_api_Zone → T_api_Fault → (List (Int)) → (List (Int)) → Option ((List (Int)) × (T_api_Fault))
  | 0, _, _, _, _, _, _, _ => none
  | n + 1, s7, s50, s51, m0, m1, m2, m3 => F_zones_Instants_b1 (F_zones_Instants_p1 fu n) fu s7 s50 s51 m0 m1 m2 m3
def F_zones_Instants_p0 (fu : Nat) (s7 : Int) (m0 : T_api_Zone) (m2 : List (Int)) : Option ((List (Int)) × (T_api_Fault)) :=
  F_zones_Instants_p1 fu fu s7 (List.length m2 : Int) 0 m0 (T_api_Fault.mk 0 0) [] m2
def F_zones_Instants (fu : Nat) (p0 : T_api_Zone) (p1 : T_api_Date) : Option ((List (Int)) × (T_api_Fault)) :=
  (F_zones_Validate fu p0).bind fun x1 =>
  (F_basic_Failed x1).bind fun x3 =>
  bif x3 then
    some ([], x1)
  else
    (F_dates_Instant fu p1).bind fun x6 =>
    (F_basic_Failed x6.2).bind fun x8 =>
    bif x8 then
      some ([], x6.2)
    else
      bif p1.fZone != (0 : Int) then
        (F_basic_Fault 5 (-9)).bind fun x12 =>
        some ([], x12)
      else
        (F_zones_within p1.fYear 3 3998).bind fun x14 =>
        bif !x14 then
          (F_basic_Fault 3 (-9)).bind fun x17 =>
          some ([], x17)
        else
          (F_zones_fixed p0).bind fun x19 =>
          bif !x19 then
            if List.length (([p0.fStandard] : List (Int)) ++ ([p0.fSummer] : List (Int))) ≤ rowMax then
            F_zones_Instants_p0 fu x6.1 p0 (([p0.fStandard] : List (Int)) ++ ([p0.fSummer] : List (Int)))
            else none
          else
            F_zones_Instants_p1 fu fu x6.1 (List.length ([p0.fStandard] : List (Int)) : Int) 0 p0 (T_api_Fault.mk 0 0) [] [p0.fStandard]
/- posthouse/posthouseref1.Ints -/
def F_R1_Ints_b0 (r0 : (List (Int)) → (List (Int)) → Int → Option ((Bool))) (fu : Nat) (s0 : List (Int)) (s1 : List (Int)) (s5 : Int) : Option ((Bool)) :=
  bif decide (s5 < (List.length s0 : Int)) then
    (idx s0 s5).bind fun y2 =>
    (idx s1 s5).bind fun y4 =>
    bif y2 != y4 then
      some false
    else
      r0 s0 s1 (w64 (s5 + 1))
  else
    some true
def F_R1_Ints_p0 (fu : Nat) : Nat → (List (Int)) → (List (Int)) → Int → Option ((Bool))
  | 0, _, _, _ => none
  | n + 1, s0, s1, s5 => F_R1_Ints_b0 (F_R1_Ints_p0 fu n) fu s0 s1 s5
def F_R1_Ints (fu : Nat) (p0 : List (Int)) (p1 : List (Int)) : Option ((Bool)) :=
  bif (List.length p0 : Int) != (List.length p1 : Int) then
    some false
  else
    F_R1_Ints_p0 fu fu p0 p1 0
/- posthouse/posthouselaw2.zonesExample -/
def F_W2_zonesExample (fu : Nat) : Option ((Bool)) :=
  (F_W2_spring).bind fun x1 =>
  (F_zones_Offset fu x1 1704067200).bind fun x3 =>
  (F_W2_spring).bind fun x5 =>
  (F_zones_Offset fu x5 1719792000).bind fun x7 =>
  (F_W2_spring).bind fun x9 =>
  (F_zones_Instants fu x9 (T_api_Date.mk 2024 3 31 2 30 0 0)).bind fun x11 =>
  (F_W2_spring).bind fun x13 =>
  (F_zones_Instants fu x13 (T_api_Date.mk 2024 10 27 2 30 0 0)).bind fun x15 =>
  bif x3.2.fCode == (0 : Int) then
    bif x7.2.fCode == (0 : Int) then
      bif x11.2.fCode == (0 : Int) then
        bif x15.2.fCode == (0 : Int) then
          bif x3.1 == (60 : Int) then
            bif x7.1 == (120 : Int) then
              bif (List.length x11.1 : Int) == (0 : Int) then
                (F_R1_Ints fu x15.1 [1729989000, 1729992600]).bind fun x24 =>
                some x24
              else
                some false
            else
              some false
          else
            some false
        else
          some false
      else
        some false
    else
      some false
  else
    some false
/- posthouse/posthouseref1.In -/
def F_R1_In (p0 : Int) (p1 : Int) (p2 : Int) : Option ((Bool)) :=
  bif decide (p1 ≤ p0) then
    some (decide (p0 ≤ p2))
  else
    some false
/- posthouse/posthouseref2.ZoneName -/
def F_R2_ZoneName_b0 (r0 : (List UInt8) → Int → Option ((Bool))) (fu : Nat) (s0 : List UInt8) (s3 : Int) : Option ((Bool)) :=
  bif decide (s3 < (List.length s0 : Int)) then
    (idx s0 s3).bind fun c2 =>
    (F_R1_In (c2.toNat : Int) 97 122).bind fun x4 =>
    bif !x4 then
      (F_R1_In (c2.toNat : Int) 65 90).bind fun x7 =>
      bif !x7 then
        (F_R1_In (c2.toNat : Int) 48 57).bind fun x10 =>
        bif !x10 then
          (idx s0 s3).bind fun c13 =>
          bif c13 != (45 : UInt8) then
            (idx s0 s3).bind fun c16 =>
            bif c16 != (95 : UInt8) then
              (idx s0 s3).bind fun c19 =>
              bif c19 != (46 : UInt8) then
                some false
              else
                r0 s0 (w64 (s3 + 1))
            else
              r0 s0 (w64 (s3 + 1))
          else
            r0 s0 (w64 (s3 + 1))
        else
          r0 s0 (w64 (s3 + 1))
      else
        r0 s0 (w64 (s3 + 1))
    else
      r0 s0 (w64 (s3 + 1))
  else
    (F_R1_In (List.length s0 : Int) 1 60).bind fun x22 =>
    some x22
def F_R2_ZoneName_p0 (fu : Nat) : Nat → (List UInt8) → Int → Option ((Bool))
  | 0, _, _ => none
  | n + 1, s0, s3 => F_R2_ZoneName_b0 (F_R2_ZoneName_p0 fu n) fu s0 s3
def F_R2_ZoneName (fu : Nat) (p0 : List UInt8) : Option ((Bool)) :=
  F_R2_ZoneName_p0 fu fu p0 0
/- posthouse/posthouseref1.At -/
def F_R1_At (p0 : Int) (p1 : Int) : Option ((T_api_Fault)) :=
  some (T_api_Fault.mk p0 p1)
/- posthouse/posthouseref2.turnOk -/
def F_R2_turnOk (p0 : T_api_Turn) : Option ((Bool)) :=
  (F_R1_In p0.fMonth 1 12).bind fun x1 =>
  bif x1 then
    (F_R1_In p0.fWeek 1 5).bind fun x4 =>
    bif x4 then
      (F_R1_In p0.fWeekday 0 6).bind fun x7 =>
      bif x7 then
        (F_R1_In p0.fMinute 0 1439).bind fun x10 =>
        some x10
      else
        some false
    else
      some false
  else
    some false
/- posthouse/posthouseref2.ZoneFault -/
def F_R2_ZoneFault (fu : Nat) (p0 : T_api_Zone) : Option ((T_api_Fault)) :=
  (F_R2_ZoneName fu p0.fName).bind fun x1 =>
  bif !x1 then
    (F_R1_At 10 (-3)).bind fun x4 =>
    some x4
  else
    (F_R1_In p0.fStandard (-900) 900).bind fun x6 =>
    bif !x6 then
      (F_R1_At 3 (-4)).bind fun x9 =>
      some x9
    else
      bif ((p0.fBegin.fMonth == (0 : Int)) && ((p0.fBegin.fWeek == (0 : Int)) && ((p0.fBegin.fWeekday == (0 : Int)) && ((p0.fBegin.fMinute == (0 : Int)) && true)))) then
        bif p0.fSummer != (0 : Int) then
          (F_R1_At 5 (-5)).bind fun x13 =>
          some x13
        else
          bif !((p0.fEnd.fMonth == (0 : Int)) && ((p0.fEnd.fWeek == (0 : Int)) && ((p0.fEnd.fWeekday == (0 : Int)) && ((p0.fEnd.fMinute == (0 : Int)) && true)))) then
            (F_R1_At 5 (-5)).bind fun x16 =>
            some x16
          else
            some (T_api_Fault.mk 0 0)
      else
        (F_R1_In p0.fSummer (-900) 900).bind fun x18 =>
        bif !x18 then
          (F_R1_At 3 (-5)).bind fun x21 =>
          some x21
        else
          (F_R1_In (w64 (p0.fSummer - p0.fStandard)) 1 180).bind fun x23 =>
          bif !x23 then
            (F_R1_At 3 (-5)).bind fun x26 =>
            some x26
          else
            (F_R2_turnOk p0.fBegin).bind fun x28 =>
            bif !x28 then
              (F_R1_At 3 (-6)).bind fun x31 =>
              some x31
            else
              (F_R2_turnOk p0.fEnd).bind fun x33 =>
              bif !x33 then
                (F_R1_At 3 (-7)).bind fun x36 =>
                some x36
              else
                bif p0.fBegin.fMonth == p0.fEnd.fMonth then
                  (F_R1_At 5 (-7)).bind fun x39 =>
                  some x39
                else
                  some (T_api_Fault.mk 0 0)
/- posthouse/posthouseref1.Leap -/
def F_R1_Leap (p0 : Int) : Option ((Bool)) :=
  bif (Int.tmod p0 (4 : Int)) == (0 : Int) then
    bif (Int.tmod p0 (100 : Int)) != (0 : Int) then
      some true
    else
      some ((Int.tmod p0 (400 : Int)) == (0 : Int))
  else
    some ((Int.tmod p0 (400 : Int)) == (0 : Int))
/- posthouse/posthouseref1.YearStart -/
def F_R1_YearStart_p1 (r0 : Int → Int → Int → Option ((Int))) (fu : Nat) (s0 : Int) (s3 : Int) (s4 : Int) : Option ((Int)) :=
  r0 s0 s3 (w64 (s4 + 1))
def F_R1_YearStart_b2 (r2 : Int → Int → Option ((Int))) (fu : Nat) (s3 : Int) (s5 : Int) : Option ((Int)) :=
  bif decide (s5 < (1970 : Int)) then
    (F_R1_Leap s5).bind fun x2 =>
    bif x2 then
      r2 (w64 (s3 - 1)) (w64 (s5 + 1))
    else
      r2 s3 (w64 (s5 + 1))
  else
    some s3
def F_R1_YearStart_p2 (fu : Nat) : Nat → Int → Int → Option ((Int))
  | 0, _, _ => none
  | n + 1, s3, s5 => F_R1_YearStart_b2 (F_R1_YearStart_p2 fu n) fu s3 s5
def F_R1_YearStart_b0 (r0 : Int → Int → Int → Option ((Int))) (fu : Nat) (s0 : Int) (s3 : Int) (s4 : Int) : Option ((Int)) :=
  bif decide (s4 < s0) then
    (F_R1_Leap s4).bind fun x2 =>
    bif x2 then
      F_R1_YearStart_p1 r0 fu s0 (w64 (s3 + 1)) s4
    else
      r0 s0 s3 (w64 (s4 + 1))
  else
    F_R1_YearStart_p2 fu fu s3 s0
def F_R1_YearStart_p0 (fu : Nat) : Nat → Int → Int → Int → Option ((Int))
  | 0, _, _, _ => none
  | n + 1, s0, s3, s4 => F_R1_YearStart_b0 (F_R1_YearStart_p0 fu n) fu s0 s3 s4
def F_R1_YearStart (fu : Nat) (p0 : Int) : Option ((Int)) :=
  F_R1_YearStart_p0 fu fu p0 (w64 (365 * (w64 (p0 - 1970)))) 1970
/- posthouse/posthouseref1.MonthDays -/
def F_R1_MonthDays (p0 : Int) (p1 : Int) : Option ((Int)) :=
  bif p1 == (2 : Int) then
    (F_R1_Leap p0).bind fun x2 =>
    bif x2 then
      some 29
    else
      (idx ([31, 28, 31, 30, 31, 30, 31, 31, 30, 31, 30, 31] : List (Int)) (w64 (p1 - 1))).bind fun y5 =>
      some y5
  else
    (idx ([31, 28, 31, 30, 31, 30, 31, 31, 30, 31, 30, 31] : List (Int)) (w64 (p1 - 1))).bind fun y7 =>
    some y7
/- posthouse/posthouseref1.DayNumber -/
def F_R1_DayNumber_b0 (r0 : Int → Int → Int → Int → Option ((Int))) (fu : Nat) (s0 : Int) (s1 : Int) (s7 : Int) (s8 : Int) : Option ((Int)) :=
  bif decide (s8 < s1) then
    (F_R1_MonthDays s0 s8).bind fun x2 =>
    r0 s0 s1 (w64 (s7 + x2)) (w64 (s8 + 1))
  else
    some s7
def F_R1_DayNumber_p0 (fu : Nat) : Nat → Int → Int → Int → Int → Option ((Int))
  | 0, _, _, _, _ => none
  | n + 1, s0, s1, s7, s8 => F_R1_DayNumber_b0 (F_R1_DayNumber_p0 fu n) fu s0 s1 s7 s8
def F_R1_DayNumber (fu : Nat) (p0 : Int) (p1 : Int) (p2 : Int) : Option ((Int)) :=
  (F_R1_YearStart fu p0).bind fun x1 =>
  F_R1_DayNumber_p0 fu fu p0 p1 (w64 ((w64 (x1 + p2)) - 1)) 1
/- posthouse/posthouseref1.DateOf -/
def F_R1_DateOf_b3 (r3 : Int → Int → Int → Int → Int → Option ((T_api_Date) × (Bool))) (fu : Nat) (s1 : Int) (s7 : Int) (s8 : Int) (s9 : Int) (s10 : Int) : Option ((T_api_Date) × (Bool)) :=
  (F_R1_MonthDays s9 s10).bind fun x1 =>
  bif decide (x1 ≤ s8) then
    (F_R1_MonthDays s9 s10).bind fun x4 =>
    r3 s1 s7 (w64 (s8 - x4)) s9 (w64 (s10 + 1))
  else
    some ((T_api_Date.mk s9 s10 (w64 (s8 + 1)) (w64 (Int.tdiv s7 (3600 : Int))) (Int.tmod (w64 (Int.tdiv s7 (60 : Int))) (60 : Int)) (Int.tmod s7 (60 : Int)) s1), true)
def F_R1_DateOf_p3 (fu : Nat) : Nat → Int → Int → Int → Int → Int → Option ((T_api_Date) × (Bool))
  | 0, _, _, _, _, _ => none
  | n + 1, s1, s7, s8, s9, s10 => F_R1_DateOf_b3 (F_R1_DateOf_p3 fu n) fu s1 s7 s8 s9 s10
def F_R1_DateOf_b2 (r2 : Int → Int → Int → Int → Option ((T_api_Date) × (Bool))) (fu : Nat) (s1 : Int) (s7 : Int) (s8 : Int) (s9 : Int) : Option ((T_api_Date) × (Bool)) :=
  (F_R1_YearStart fu (w64 (s9 + 1))).bind fun x1 =>
  bif decide (x1 ≤ s8) then
    r2 s1 s7 s8 (w64 (s9 + 1))
  else
    (F_R1_YearStart fu s9).bind fun x4 =>
    F_R1_DateOf_p3 fu fu s1 s7 (w64 (s8 - x4)) s9 1
def F_R1_DateOf_p2 (fu : Nat) : Nat → Int → Int → Int → Int → Option ((T_api_Date) × (Bool))
  | 0, _, _, _, _ => none
  | n + 1, s1, s7, s8, s9 => F_R1_DateOf_b2 (F_R1_DateOf_p2 fu n) fu s1 s7 s8 s9
def F_R1_DateOf_p1 (fu : Nat) (s1 : Int) (s7 : Int) (s8 : Int) (s9 : Int) : Option ((T_api_Date) × (Bool)) :=
  bif decide (s9 < (1 : Int)) then
    F_R1_DateOf_p2 fu fu s1 s7 s8 1
  else
    F_R1_DateOf_p2 fu fu s1 s7 s8 s9
def F_R1_DateOf_p0 (fu : Nat) (s1 : Int) (s6 : Int) (s7 : Int) : Option ((T_api_Date) × (Bool)) :=
  (F_R1_DayNumber fu 1 1 1).bind fun x1 =>
  bif decide ((w64 (Int.tdiv (w64 (s6 - s7)) (86400 : Int))) < x1) then
    some ((T_api_Date.mk 0 0 0 0 0 0 0), false)
  else
    (F_R1_DayNumber fu 4000 12 31).bind fun x4 =>
    bif decide (x4 < (w64 (Int.tdiv (w64 (s6 - s7)) (86400 : Int)))) then
      some ((T_api_Date.mk 0 0 0 0 0 0 0), false)
    else
      bif decide ((w64 (Int.tdiv (w64 (s6 - s7)) (86400 : Int))) < (0 : Int)) then
        F_R1_DateOf_p1 fu s1 s7 (w64 (Int.tdiv (w64 (s6 - s7)) (86400 : Int))) (w64 ((w64 (1970 + (w64 (Int.tdiv (w64 (Int.tdiv (w64 (s6 - s7)) (86400 : Int))) (365 : Int))))) - 2))
      else
        bif decide ((w64 (1970 + (w64 (Int.tdiv (w64 (Int.tdiv (w64 (s6 - s7)) (86400 : Int))) (366 : Int))))) < (1 : Int)) then
          F_R1_DateOf_p2 fu fu s1 s7 (w64 (Int.tdiv (w64 (s6 - s7)) (86400 : Int))) 1
        else
          F_R1_DateOf_p2 fu fu s1 s7 (w64 (Int.tdiv (w64 (s6 - s7)) (86400 : Int))) (w64 (1970 + (w64 (Int.tdiv (w64 (Int.tdiv (w64 (s6 - s7)) (86400 : Int))) (366 : Int)))))
def F_R1_DateOf (fu : Nat) (p0 : Int) (p1 : Int) : Option ((T_api_Date) × (Bool)) :=
  bif decide ((Int.tmod (w64 (p0 + (w64 (60 * p1)))) (86400 : Int)) < (0 : Int)) then
    F_R1_DateOf_p0 fu p1 (w64 (p0 + (w64 (60 * p1)))) (w64 ((Int.tmod (w64 (p0 + (w64 (60 * p1)))) (86400 : Int)) + 86400))
  else
    (F_R1_DayNumber fu 1 1 1).bind fun x2 =>
    bif decide ((w64 (Int.tdiv (w64 ((w64 (p0 + (w64 (60 * p1)))) - (Int.tmod (w64 (p0 + (w64 (60 * p1)))) (86400 : Int)))) (86400 : Int))) < x2) then
      some ((T_api_Date.mk 0 0 0 0 0 0 0), false)
    else
      (F_R1_DayNumber fu 4000 12 31).bind fun x5 =>
      bif decide (x5 < (w64 (Int.tdiv (w64 ((w64 (p0 + (w64 (60 * p1)))) - (Int.tmod (w64 (p0 + (w64 (60 * p1)))) (86400 : Int)))) (86400 : Int)))) then
        some ((T_api_Date.mk 0 0 0 0 0 0 0), false)
      else
        bif decide ((w64 (Int.tdiv (w64 ((w64 (p0 + (w64 (60 * p1)))) - (Int.tmod (w64 (p0 + (w64 (60 * p1)))) (86400 : Int)))) (86400 : Int))) < (0 : Int)) then
          F_R1_DateOf_p1 fu p1 (Int.tmod (w64 (p0 + (w64 (60 * p1)))) (86400 : Int)) (w64 (Int.tdiv (w64 ((w64 (p0 + (w64 (60 * p1)))) - (Int.tmod (w64 (p0 + (w64 (60 * p1)))) (86400 : Int)))) (86400 : Int))) (w64 ((w64 (1970 + (w64 (Int.tdiv (w64 (Int.tdiv (w64 ((w64 (p0 + (w64 (60 * p1)))) - (Int.tmod (w64 (p0 + (w64 (60 * p1)))) (86400 : Int)))) (86400 : Int))) (365 : Int))))) - 2))
        else
          bif decide ((w64 (1970 + (w64 (Int.tdiv (w64 (Int.tdiv (w64 ((w64 (p0 + (w64 (60 * p1)))) - (Int.tmod (w64 (p0 + (w64 (60 * p1)))) (86400 : Int)))) (86400 : Int))) (366 : Int))))) < (1 : Int)) then
            F_R1_DateOf_p2 fu fu p1 (Int.tmod (w64 (p0 + (w64 (60 * p1)))) (86400 : Int)) (w64 (Int.tdiv (w64 ((w64 (p0 + (w64 (60 * p1)))) - (Int.tmod (w64 (p0 + (w64 (60 * p1)))) (86400 : Int)))) (86400 : Int))) 1
          else
            F_R1_DateOf_p2 fu fu p1 (Int.tmod (w64 (p0 + (w64 (60 * p1)))) (86400 : Int)) (w64 (Int.tdiv (w64 ((w64 (p0 + (w64 (60 * p1)))) - (Int.tmod (w64 (p0 + (w64 (60 * p1)))) (86400 : Int)))) (86400 : Int))) (w64 (1970 + (w64 (Int.tdiv (w64 (Int.tdiv (w64 ((w64 (p0 + (w64 (60 * p1)))) - (Int.tmod (w64 (p0 + (w64 (60 * p1)))) (86400 : Int)))) (86400 : Int))) (366 : Int)))))
/- posthouse/posthouseref1.WeekdayOf -/
def F_R1_WeekdayOf (fu : Nat) (p0 : Int) (p1 : Int) (p2 : Int) : Option ((Int)) :=
  (F_R1_DayNumber fu p0 p1 p2).bind fun x1 =>
  bif decide ((Int.tmod (w64 (x1 + 4)) (7 : Int)) < (0 : Int)) then
    some (w64 ((Int.tmod (w64 (x1 + 4)) (7 : Int)) + 7))
  else
    some (Int.tmod (w64 (x1 + 4)) (7 : Int))
/- posthouse/posthouseref2.TurnDay -/
def F_R2_TurnDay_b0 (r0 : Int → Int → Int → Int → Int → T_api_Turn → Option ((Int))) (fu : Nat) (s1 : Int) (s5 : Int) (s6 : Int) (s7 : Int) (s8 : Int) (m0 : T_api_Turn) : Option ((Int)) :=
  (F_R1_MonthDays s1 m0.fMonth).bind fun x1 =>
  bif decide (s8 ≤ x1) then
    bif (Int.tmod (w64 ((w64 (s7 + s8)) - 1)) (7 : Int)) != m0.fWeekday then
      r0 s1 s5 s6 s7 (w64 (s8 + 1)) m0
    else
      bif (w64 (s5 + 1)) == m0.fWeek then
        some s8
      else
        r0 s1 (w64 (s5 + 1)) s8 s7 (w64 (s8 + 1)) m0
  else
    some s6
def F_R2_TurnDay_p0 (fu : Nat) : Nat → Int → Int → Int → Int → Int → T_api_Turn → Option ((Int))
  | 0, _, _, _, _, _, _ => none
  | n + 1, s1, s5, s6, s7, s8, m0 => F_R2_TurnDay_b0 (F_R2_TurnDay_p0 fu n) fu s1 s5 s6 s7 s8 m0
def F_R2_TurnDay (fu : Nat) (p0 : T_api_Turn) (p1 : Int) : Option ((Int)) :=
  (F_R1_WeekdayOf fu p1 p0.fMonth 1).bind fun x1 =>
  F_R2_TurnDay_p0 fu fu p1 0 0 x1 1 p0
/- posthouse/posthouseref1.SecondsOf -/
def F_R1_SecondsOf (fu : Nat) (p0 : T_api_Date) : Option ((Int)) :=
  (F_R1_DayNumber fu p0.fYear p0.fMonth p0.fDay).bind fun x1 =>
  some (w64 ((w64 ((w64 ((w64 ((w64 (86400 * x1)) + (w64 (3600 * p0.fHour)))) + (w64 (60 * p0.fMinute)))) + p0.fSecond)) - (w64 (60 * p0.fZone))))
/- posthouse/posthouseref2.TurnInstant -/
def F_R2_TurnInstant (fu : Nat) (p0 : T_api_Turn) (p1 : Int) (p2 : Int) : Option ((Int)) :=
  (F_R2_TurnDay fu p0 p1).bind fun x1 =>
  (F_R1_SecondsOf fu (T_api_Date.mk p1 p0.fMonth x1 0 0 0 0)).bind fun x3 =>
  some (w64 (x3 + (w64 (60 * (w64 (p0.fMinute - p2))))))
/- posthouse/posthouseref2.OffsetNear -/
def F_R2_OffsetNear_p1 (r0 : Int → Int → Int → Int → Int → T_api_Zone → Option ((Int))) (fu : Nat) (s1 : Int) (s2 : Int) (s7 : Int) (s8 : Int) (s9 : Int) (s11 : Int) (m0 : T_api_Zone) : Option ((Int)) :=
  bif decide (s11 ≤ s1) then
    bif decide (s8 ≤ s11) then
      r0 s1 s2 m0.fStandard s11 (w64 (s9 - 1)) m0
    else
      r0 s1 s2 s7 s8 (w64 (s9 - 1)) m0
  else
    r0 s1 s2 s7 s8 (w64 (s9 - 1)) m0
def F_R2_OffsetNear_b0 (r0 : Int → Int → Int → Int → Int → T_api_Zone → Option ((Int))) (fu : Nat) (s1 : Int) (s2 : Int) (s7 : Int) (s8 : Int) (s9 : Int) (m0 : T_api_Zone) : Option ((Int)) :=
  bif decide ((w64 (s2 - 1)) ≤ s9) then
    (F_R2_TurnInstant fu m0.fBegin s9 m0.fStandard).bind fun x2 =>
    (F_R2_TurnInstant fu m0.fEnd s9 m0.fSummer).bind fun x4 =>
    bif decide (x2 ≤ s1) then
      bif decide (s8 < x2) then
        F_R2_OffsetNear_p1 r0 fu s1 s2 m0.fSummer x2 s9 x4 m0
      else
        bif decide (x4 ≤ s1) then
          bif decide (s8 ≤ x4) then
            r0 s1 s2 m0.fStandard x4 (w64 (s9 - 1)) m0
          else
            r0 s1 s2 s7 s8 (w64 (s9 - 1)) m0
        else
          r0 s1 s2 s7 s8 (w64 (s9 - 1)) m0
    else
      bif decide (x4 ≤ s1) then
        bif decide (s8 ≤ x4) then
          r0 s1 s2 m0.fStandard x4 (w64 (s9 - 1)) m0
        else
          r0 s1 s2 s7 s8 (w64 (s9 - 1)) m0
      else
        r0 s1 s2 s7 s8 (w64 (s9 - 1)) m0
  else
    some s7
def F_R2_OffsetNear_p0 (fu : Nat) : Nat → Int → Int → Int → Int → Int → T_api_Zone → Option ((Int))
  | 0, _, _, _, _, _, _ => none
  | n + 1, s1, s2, s7, s8, s9, m0 => F_R2_OffsetNear_b0 (F_R2_OffsetNear_p0 fu n) fu s1 s2 s7 s8 s9 m0
def F_R2_OffsetNear (fu : Nat) (p0 : T_api_Zone) (p1 : Int) (p2 : Int) : Option ((Int)) :=
  bif p0.fBegin.fMonth == (0 : Int) then
    some p0.fStandard
  else
    F_R2_OffsetNear_p0 fu fu p1 p2 p0.fStandard (-1152921504606846976) (w64 (p2 + 1)) p0
/- posthouse/posthouseref2.OffsetOf -/
def F_R2_OffsetOf (fu : Nat) (p0 : T_api_Zone) (p1 : Int) : Option ((Int) × (T_api_Fault)) :=
  (F_R1_In p1 (-68719476736) 68719476736).bind fun x1 =>
  bif !x1 then
    (F_R1_At 3 (-2)).bind fun x4 =>
    some (0, x4)
  else
    (F_R1_DateOf fu p1 p0.fStandard).bind fun x6 =>
    bif !x6.2 then
      (F_R1_At 3 (-8)).bind fun x9 =>
      some (0, x9)
    else
      (F_R1_In x6.1.fYear 2 3999).bind fun x11 =>
      bif !x11 then
        (F_R1_At 3 (-8)).bind fun x14 =>
        some (0, x14)
      else
        (F_R2_OffsetNear fu p0 p1 x6.1.fYear).bind fun x16 =>
        some (x16, (T_api_Fault.mk 0 0))
/- posthouse/posthouselaw2.ZonesOffsetMatchesSpec -/
def F_W2_ZonesOffsetMatchesSpec (fu : Nat) (p0 : T_api_Zone) (p1 : Int) : Option ((Bool)) :=
  (F_W2_zonesExample fu).bind fun x1 =>
  bif !x1 then
    some false
  else
    (F_zones_Validate fu p0).bind fun x4 =>
    (F_R2_ZoneFault fu p0).bind fun x6 =>
    bif !((x4.fCode == x6.fCode) && ((x4.fIndex == x6.fIndex) && true)) then
      some false
    else
      (F_zones_Offset fu p0 p1).bind fun x9 =>
      (F_R2_ZoneFault fu p0).bind fun x11 =>
      bif x11.fCode != (0 : Int) then
        bif ((x9.2.fCode == x11.fCode) && ((x9.2.fIndex == x11.fIndex) && true)) then
          some (x9.1 == (0 : Int))
        else
          some false
      else
        (F_R2_OffsetOf fu p0 p1).bind fun x15 =>
        bif ((x9.2.fCode == x15.2.fCode) && ((x9.2.fIndex == x15.2.fIndex) && true)) then
          some (x9.1 == x15.1)
        else
          some false
/- posthouse/posthouseref1.DateFault -/
def F_R1_DateFault (p0 : T_api_Date) : Option ((T_api_Fault)) :=
  (F_R1_In p0.fYear 1 4000).bind fun x1 =>
  bif !x1 then
    (F_R1_At 3 (-3)).bind fun x4 =>
    some x4
  else
    (F_R1_In p0.fMonth 1 12).bind fun x6 =>
    bif !x6 then
      (F_R1_At 3 (-3)).bind fun x9 =>
      some x9
    else
      (F_R1_MonthDays p0.fYear p0.fMonth).bind fun x11 =>
      (F_R1_In p0.fDay 1 x11).bind fun x13 =>
      bif !x13 then
        (F_R1_At 3 (-3)).bind fun x16 =>
        some x16
      else
        (F_R1_In p0.fHour 0 23).bind fun x18 =>
        bif !x18 then
          (F_R1_At 3 (-3)).bind fun x21 =>
          some x21
        else
          (F_R1_In p0.fMinute 0 59).bind fun x23 =>
          bif !x23 then
            (F_R1_At 3 (-3)).bind fun x26 =>
            some x26
          else
            (F_R1_In p0.fSecond 0 59).bind fun x28 =>
            bif !x28 then
              (F_R1_At 3 (-3)).bind fun x31 =>
              some x31
            else
              (F_R1_In p0.fZone (-900) 900).bind fun x33 =>
              bif !x33 then
                (F_R1_At 3 (-3)).bind fun x36 =>
                some x36
              else
                some (T_api_Fault.mk 0 0)
/- posthouse/posthouseref2.LocalFault -/
def F_R2_LocalFault (p0 : T_api_Date) : Option ((T_api_Fault)) :=
  (F_R1_DateFault p0).bind fun x1 =>
  bif x1.fCode != (0 : Int) then
    some x1
  else
    bif p0.fZone != (0 : Int) then
      (F_R1_At 5 (-9)).bind fun x5 =>
      some x5
    else
      (F_R1_In p0.fYear 3 3998).bind fun x7 =>
      bif !x7 then
        (F_R1_At 3 (-9)).bind fun x10 =>
        some x10
      else
        some x1
/- posthouse/posthouseref2.InstantsOf -/
def F_R2_InstantsOf_p0 (fu : Nat) (s7 : Int) (m0 : T_api_Zone) (m1 : T_api_Date) (m2 : List (Int)) : Option ((List (Int))) :=
  (F_R2_OffsetNear fu m0 s7 m1.fYear).bind fun x1 =>
  bif x1 == m0.fStandard then
    if List.length (m2 ++ ([s7] : List (Int))) ≤ rowMax then
    some (m2 ++ ([s7] : List (Int)))
    else none
  else
    some m2
def F_R2_InstantsOf (fu : Nat) (p0 : T_api_Zone) (p1 : T_api_Date) : Option ((List (Int))) :=
  (F_R1_SecondsOf fu (T_api_Date.mk p1.fYear p1.fMonth p1.fDay p1.fHour p1.fMinute p1.fSecond 0)).bind fun x1 =>
  bif decide ((0 : Int) < p0.fBegin.fMonth) then
    (F_R2_OffsetNear fu p0 (w64 (x1 - (w64 (60 * p0.fSummer)))) p1.fYear).bind fun x4 =>
    bif x4 == p0.fSummer then
      if List.length ([w64 (x1 - (w64 (60 * p0.fSummer)))] : List (Int)) ≤ rowMax then
      F_R2_InstantsOf_p0 fu (w64 (x1 - (w64 (60 * p0.fStandard)))) p0 p1 [w64 (x1 - (w64 (60 * p0.fSummer)))]
      else none
    else
      (F_R2_OffsetNear fu p0 (w64 (x1 - (w64 (60 * p0.fStandard)))) p1.fYear).bind fun x8 =>
      bif x8 == p0.fStandard then
        if List.length ([w64 (x1 - (w64 (60 * p0.fStandard)))] : List (Int)) ≤ rowMax then
        some [w64 (x1 - (w64 (60 * p0.fStandard)))]
        else none
      else
        some []
  else
    (F_R2_OffsetNear fu p0 (w64 (x1 - (w64 (60 * p0.fStandard)))) p1.fYear).bind fun x12 =>
    bif x12 == p0.fStandard then
      if List.length ([w64 (x1 - (w64 (60 * p0.fStandard)))] : List (Int)) ≤ rowMax then
      some [w64 (x1 - (w64 (60 * p0.fStandard)))]
      else none
    else
      some []
/- posthouse/posthouselaw2.ZonesInstantsMatchesSpec -/
def F_W2_ZonesInstantsMatchesSpec_p0 (fu : Nat) (m0 : T_api_Zone) (m1 : T_api_Date) (m2 : List (Int)) (m3 : T_api_Fault) (m4 : T_api_Fault) : Option ((Bool)) :=
  bif m4.fCode != (0 : Int) then
    bif ((m3.fCode == m4.fCode) && ((m3.fIndex == m4.fIndex) && true)) then
      some ((List.length m2 : Int) == (0 : Int))
    else
      some false
  else
    bif m3.fCode == (0 : Int) then
      (F_R2_InstantsOf fu m0 m1).bind fun x4 =>
      (F_R1_Ints fu m2 x4).bind fun x6 =>
      some x6
    else
      some false
def F_W2_ZonesInstantsMatchesSpec (fu : Nat) (p0 : T_api_Zone) (p1 : T_api_Date) : Option ((Bool)) :=
  (F_W2_zonesExample fu).bind fun x1 =>
  bif !x1 then
    some false
  else
    (F_zones_Instants fu p0 p1).bind fun x4 =>
    (F_R2_ZoneFault fu p0).bind fun x6 =>
    bif x6.fCode == (0 : Int) then
      (F_R2_LocalFault p1).bind fun x9 =>
      F_W2_ZonesInstantsMatchesSpec_p0 fu p0 p1 x4.1 x4.2 x9
    else
      bif x6.fCode != (0 : Int) then
        bif ((x4.2.fCode == x6.fCode) && ((x4.2.fIndex == x6.fIndex) && true)) then
          some ((List.length x4.1 : Int) == (0 : Int))
        else
          some false
      else
        bif x4.2.fCode == (0 : Int) then
          (F_R2_InstantsOf fu p0 p1).bind fun x14 =>
          (F_R1_Ints fu x4.1 x14).bind fun x16 =>
          some x16
        else
          some false
/- posthouse/posthouseref2.Has -/
def F_R2_Has_b0 (r0 : (List (Int)) → Int → Int → Option ((Bool))) (fu : Nat) (s0 : List (Int)) (s1 : Int) (s5 : Int) : Option ((Bool)) :=
  bif decide (s5 < (List.length s0 : Int)) then
    (idx s0 s5).bind fun y2 =>
    bif y2 == s1 then
      some true
    else
      r0 s0 s1 (w64 (s5 + 1))
  else
    some false
def F_R2_Has_p0 (fu : Nat) : Nat → (List (Int)) → Int → Int → Option ((Bool))
  | 0, _, _, _ => none
  | n + 1, s0, s1, s5 => F_R2_Has_b0 (F_R2_Has_p0 fu n) fu s0 s1 s5
def F_R2_Has (fu : Nat) (p0 : List (Int)) (p1 : Int) : Option ((Bool)) :=
  F_R2_Has_p0 fu fu p0 p1 0
/- posthouse/posthouselaw2.ZonesLocalDates -/
def F_W2_ZonesLocalDates_b0 (r0 : Int → T_api_Zone → Int → Int → Int → Int → Int → Int → (List (Int)) → Option ((Bool))) (fu : Nat) (s11 : Int) (m0 : T_api_Zone) (m1_0 : Int) (m1_1 : Int) (m1_2 : Int) (m1_3 : Int) (m1_4 : Int) (m1_5 : Int) (m2 : List (Int)) : Option ((Bool)) :=
  bif decide (s11 < (List.length m2 : Int)) then
    (idx m2 s11).bind fun y2 =>
    (F_zones_Offset fu m0 y2).bind fun x4 =>
    (idx m2 s11).bind fun y6 =>
    (F_dates_Civil fu y6 x4.1).bind fun x8 =>
    bif x4.2.fCode != (0 : Int) then
      some false
    else
      bif x8.2.fCode != (0 : Int) then
        some false
      else
        bif !((x8.1.fYear == m1_0) && ((x8.1.fMonth == m1_1) && ((x8.1.fDay == m1_2) && ((x8.1.fHour == m1_3) && ((x8.1.fMinute == m1_4) && ((x8.1.fSecond == m1_5) && (((0 : Int) == (0 : Int)) && true))))))) then
          some false
        else
          bif decide ((0 : Int) < s11) then
            (idx m2 s11).bind fun y14 =>
            (idx m2 (w64 (s11 - 1))).bind fun y16 =>
            bif decide (y14 ≤ y16) then
              some false
            else
              r0 (w64 (s11 + 1)) m0 m1_0 m1_1 m1_2 m1_3 m1_4 m1_5 m2
          else
            r0 (w64 (s11 + 1)) m0 m1_0 m1_1 m1_2 m1_3 m1_4 m1_5 m2
  else
    some true
def F_W2_ZonesLocalDates_p0 (fu : Nat) : Nat → Int → T_api_Zone → Int → Int → Int → Int → Int → Int → (List (Int)) → Option ((Bool))
  | 0, _, _, _, _, _, _, _, _, _ => none
  | n + 1, s11, m0, m1_0, m1_1, m1_2, m1_3, m1_4, m1_5, m2 => F_W2_ZonesLocalDates_b0 (F_W2_ZonesLocalDates_p0 fu n) fu s11 m0 m1_0 m1_1 m1_2 m1_3 m1_4 m1_5 m2
def F_W2_ZonesLocalDates (fu : Nat) (p0 : T_api_Zone) (p1 : Int) : Option ((Bool)) :=
  (F_W2_zonesExample fu).bind fun x1 =>
  bif !x1 then
    some false
  else
    (F_zones_Offset fu p0 p1).bind fun x4 =>
    bif x4.2.fCode != (0 : Int) then
      some (x4.1 == (0 : Int))
    else
      (F_dates_Civil fu p1 x4.1).bind fun x7 =>
      bif x7.2.fCode != (0 : Int) then
        some true
      else
        (F_R1_In x7.1.fYear 3 3998).bind fun x10 =>
        bif !x10 then
          some true
        else
          (F_zones_Instants fu p0 (T_api_Date.mk x7.1.fYear x7.1.fMonth x7.1.fDay x7.1.fHour x7.1.fMinute x7.1.fSecond 0)).bind fun x13 =>
          bif x13.2.fCode != (0 : Int) then
            some false
          else
            (F_R2_Has fu x13.1 p1).bind fun x16 =>
            bif !x16 then
              some false
            else
              bif decide ((2 : Int) < (List.length x13.1 : Int)) then
                some false
              else
                F_W2_ZonesLocalDates_p0 fu fu 0 p0 x7.1.fYear x7.1.fMonth x7.1.fDay x7.1.fHour x7.1.fMinute x7.1.fSecond x13.1
/- posthouse/posthouselaw2.ZonesFixed -/
def F_W2_ZonesFixed (fu : Nat) (p0 : List UInt8) (p1 : Int) (p2 : Int) (p3 : T_api_Date) : Option ((Bool)) :=
  (F_W2_zonesExample fu).bind fun x1 =>
  bif !x1 then
    some false
  else
    (F_zones_Offset fu (T_api_Zone.mk p0 p1 0 (T_api_Turn.mk 0 0 0 0) (T_api_Turn.mk 0 0 0 0)) p2).bind fun x4 =>
    (F_zones_Instants fu (T_api_Zone.mk p0 p1 0 (T_api_Turn.mk 0 0 0 0) (T_api_Turn.mk 0 0 0 0)) p3).bind fun x6 =>
    bif x4.2.fCode != (0 : Int) then
      bif x4.1 != (0 : Int) then
        some false
      else
        bif x6.2.fCode != (0 : Int) then
          bif (List.length x6.1 : Int) != (0 : Int) then
            some false
          else
            some true
        else
          (F_R1_SecondsOf fu (T_api_Date.mk p3.fYear p3.fMonth p3.fDay p3.fHour p3.fMinute p3.fSecond p1)).bind fun x12 =>
          (F_R1_Ints fu x6.1 [x12]).bind fun x14 =>
          some x14
    else
      bif x6.2.fCode != (0 : Int) then
        bif (List.length x6.1 : Int) != (0 : Int) then
          some false
        else
          bif x4.1 == p1 then
            some true
          else
            some false
      else
        bif x4.1 == p1 then
          (F_R1_SecondsOf fu (T_api_Date.mk p3.fYear p3.fMonth p3.fDay p3.fHour p3.fMinute p3.fSecond p1)).bind fun x20 =>
          (F_R1_Ints fu x6.1 [x20]).bind fun x22 =>
          some x22
        else
          some false
/- posthouse/posthouselaw2.ZonesTurns -/
def F_W2_ZonesTurns_b0 (r0 : Int → Int → Int → Int → T_api_Zone → Option ((Bool))) (fu : Nat) (s1 : Int) (s5 : Int) (s6 : Int) (s7 : Int) (m0 : T_api_Zone) : Option ((Bool)) :=
  bif decide (s7 ≤ (350 : Int)) then
    (F_zones_Offset fu m0 (w64 (s1 + (w64 (86400 * s7))))).bind fun x2 =>
    bif x2.2.fCode != (0 : Int) then
      some false
    else
      bif x2.1 != m0.fStandard then
        bif x2.1 != m0.fSummer then
          some false
        else
          bif decide ((0 : Int) < s7) then
            bif x2.1 != s6 then
              r0 s1 (w64 (s5 + 1)) x2.1 (w64 (s7 + 1)) m0
            else
              r0 s1 s5 x2.1 (w64 (s7 + 1)) m0
          else
            r0 s1 s5 x2.1 (w64 (s7 + 1)) m0
      else
        bif decide ((0 : Int) < s7) then
          bif x2.1 != s6 then
            r0 s1 (w64 (s5 + 1)) x2.1 (w64 (s7 + 1)) m0
          else
            r0 s1 s5 x2.1 (w64 (s7 + 1)) m0
        else
          r0 s1 s5 x2.1 (w64 (s7 + 1)) m0
  else
    some (decide (s5 ≤ (2 : Int)))
def F_W2_ZonesTurns_p0 (fu : Nat) : Nat → Int → Int → Int → Int → T_api_Zone → Option ((Bool))
  | 0, _, _, _, _, _ => none
  | n + 1, s1, s5, s6, s7, m0 => F_W2_ZonesTurns_b0 (F_W2_ZonesTurns_p0 fu n) fu s1 s5 s6 s7 m0
def F_W2_ZonesTurns (fu : Nat) (p0 : T_api_Zone) (p1 : Int) : Option ((Bool)) :=
  (F_W2_zonesExample fu).bind fun x1 =>
  bif !x1 then
    some false
  else
    (F_zones_Validate fu p0).bind fun x4 =>
    bif x4.fCode != (0 : Int) then
      some true
    else
      (F_R1_In p1 (-20000000000) 20000000000).bind fun x7 =>
      bif !x7 then
        some true
      else
        F_W2_ZonesTurns_p0 fu fu p1 0 0 0 p0
end Go.Sym
