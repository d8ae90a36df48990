/- What the claim rests on, part 5: gathered texts. -/
import Derived.Test.YtojpbgaccmkggaaGreatDoorRows
import Derived.Test.YtojpbgaccmkggaaGreatDoorSyA4
/- The Go functions compute the plain functions: printed by a program; each is reckoned by the kernel. -/
namespace Go.Sym
open Go.Proofs
set_option linter.unusedVariables false
set_option maxRecDepth 100000
noncomputable def lcOf : Nat → Option (Code × Code)
  | _ => none
noncomputable instance : LC := ⟨lcOf⟩
theorem Tryz_mixed : Tryz.prog.follows .mixedOrders = true := by kernel_rfl
def etys : List (Nat × Ty) := [(3, .int .i64), (5, .byte), (9, .str), (47, .prod .str .str)]
theorem F_bytealg_IndexByte_ok88 : (F_bytealg_IndexByte_ent 88 F_bytealg_IndexByte).Sound Tryz.prog := F_bytealg_IndexByte_ok Tryz.func88 (by kernel_rfl) (by kernel_rfl) (by kernel_rfl) (by kernel_rfl)
theorem F_bytealg_IndexByteString_ok122 : (F_bytealg_IndexByteString_ent 122 F_bytealg_IndexByte).Sound Tryz.prog := F_bytealg_IndexByteString_ok Tryz.func122 (by kernel_rfl) (by kernel_rfl) (by kernel_rfl) (by kernel_rfl)
/- posthouse/basic.Fault -/
def F_basic_Fault_out : RS ((Int × Int)) := .one (α := (Int × Int)) (.h (.prod (.int .i64) (.int .i64))) [] (fun r => (r, ())) (fun y => y.1) (fun _ => rfl)
def F_basic_Fault_hp : List (Nat × BPt) := []
def F_basic_Fault_args : List Pt := [.h (.int .i64), .h (.int .i64)]
def F_basic_Fault_ent (r : Int → Int → Option ((Int × Int))) : Ent := { key := .fn 34, args := F_basic_Fault_args, hp := F_basic_Fault_hp, R := ((Int × Int)), F := fun d _ => r d.1 d.2.1, out := F_basic_Fault_out }
noncomputable def F_basic_Fault_cx : Cx := { P := Tryz.prog, tb := ⟨[], etys, false⟩, fn := Tryz.f34, f := 34, ids := idsB F_basic_Fault_hp, rd := none, tags := [] }
theorem F_basic_Fault_cxok : (F_basic_Fault_cx).Ok (bodyOf Tryz.f34) := ⟨ents0, Tryz_mixed, Tryz.func34, tags0⟩
theorem F_basic_Fault_ok : (F_basic_Fault_ent (F_basic_Fault)).Sound Tryz.prog :=
  Ent.sound_fn (cx := F_basic_Fault_cx) (labs := []) (F_basic_Fault_cxok) rfl rfl rfl rfl Tryz.call34 (by kernel_rfl) (fun _ => labs0) (fun d d' => by kernel_rfl)
/- bytes.IndexByte -/
def F_bytes_IndexByte_out : RS Int := .one (α := Int) (.h (.int .i64)) [] (fun r => (r, ())) (fun y => y.1) (fun _ => rfl)
def F_bytes_IndexByte_hp : List (Nat × BPt) := []
def F_bytes_IndexByte_args : List Pt := [.h (.list .byte), .h .byte]
def F_bytes_IndexByte_ent (r : (List UInt8) → UInt8 → Option Int) : Ent := { key := .fn 64, args := F_bytes_IndexByte_args, hp := F_bytes_IndexByte_hp, R := Int, F := fun d _ => r d.1 d.2.1, out := F_bytes_IndexByte_out }
noncomputable def F_bytes_IndexByte_cx : Cx := { P := Tryz.prog, tb := ⟨[F_bytealg_IndexByte_ent 88 F_bytealg_IndexByte], etys, false⟩, fn := Tryz.f64, f := 64, ids := idsB F_bytes_IndexByte_hp, rd := none, tags := [] }
theorem F_bytes_IndexByte_cxok : (F_bytes_IndexByte_cx).Ok (bodyOf Tryz.f64) := ⟨(ents1 F_bytealg_IndexByte_ok88 ents0), Tryz_mixed, Tryz.func64, tags0⟩
theorem F_bytes_IndexByte_ok : (F_bytes_IndexByte_ent (F_bytes_IndexByte)).Sound Tryz.prog :=
  Ent.sound_fn (cx := F_bytes_IndexByte_cx) (labs := []) (F_bytes_IndexByte_cxok) rfl rfl rfl rfl Tryz.call64 (by kernel_rfl) (fun _ => labs0) (fun d d' => by kernel_rfl)
/- bytes.Equal -/
def F_bytes_Equal_out : RS Bool := .one (α := Bool) (.h .bool) [] (fun r => (r, ())) (fun y => y.1) (fun _ => rfl)
def F_bytes_Equal_hp : List (Nat × BPt) := []
def F_bytes_Equal_args : List Pt := [.h (.list .byte), .h (.list .byte)]
def F_bytes_Equal_ent (r : (List UInt8) → (List UInt8) → Option Bool) : Ent := { key := .fn 104, args := F_bytes_Equal_args, hp := F_bytes_Equal_hp, R := Bool, F := fun d _ => r d.1 d.2.1, out := F_bytes_Equal_out }
noncomputable def F_bytes_Equal_cx : Cx := { P := Tryz.prog, tb := ⟨[], etys, false⟩, fn := Tryz.f104, f := 104, ids := idsB F_bytes_Equal_hp, rd := none, tags := [] }
theorem F_bytes_Equal_cxok : (F_bytes_Equal_cx).Ok (bodyOf Tryz.f104) := ⟨ents0, Tryz_mixed, Tryz.func104, tags0⟩
theorem F_bytes_Equal_ok : (F_bytes_Equal_ent (F_bytes_Equal)).Sound Tryz.prog :=
  Ent.sound_fn (cx := F_bytes_Equal_cx) (labs := []) (F_bytes_Equal_cxok) rfl rfl rfl rfl Tryz.call104 (by kernel_rfl) (fun _ => labs0) (fun d d' => by kernel_rfl)
/- bytes.HasSuffix -/
def F_bytes_HasSuffix_out : RS Bool := .one (α := Bool) (.h .bool) [] (fun r => (r, ())) (fun y => y.1) (fun _ => rfl)
def F_bytes_HasSuffix_hp : List (Nat × BPt) := []
def F_bytes_HasSuffix_args : List Pt := [.h (.list .byte), .h (.list .byte)]
def F_bytes_HasSuffix_ent (r : (List UInt8) → (List UInt8) → Option Bool) : Ent := { key := .fn 89, args := F_bytes_HasSuffix_args, hp := F_bytes_HasSuffix_hp, R := Bool, F := fun d _ => r d.1 d.2.1, out := F_bytes_HasSuffix_out }
noncomputable def F_bytes_HasSuffix_cx : Cx := { P := Tryz.prog, tb := ⟨[F_bytes_Equal_ent F_bytes_Equal], etys, false⟩, fn := Tryz.f89, f := 89, ids := idsB F_bytes_HasSuffix_hp, rd := none, tags := [] }
theorem F_bytes_HasSuffix_cxok : (F_bytes_HasSuffix_cx).Ok (bodyOf Tryz.f89) := ⟨(ents1 F_bytes_Equal_ok ents0), Tryz_mixed, Tryz.func89, tags0⟩
theorem F_bytes_HasSuffix_ok : (F_bytes_HasSuffix_ent (F_bytes_HasSuffix)).Sound Tryz.prog :=
  Ent.sound_fn (cx := F_bytes_HasSuffix_cx) (labs := []) (F_bytes_HasSuffix_cxok) rfl rfl rfl rfl Tryz.call89 (by kernel_rfl) (fun _ => labs0) (fun d d' => by kernel_rfl)
/- bytes.TrimSuffix -/
def F_bytes_TrimSuffix_out : RS ((List UInt8)) := .one (α := (List UInt8)) (.h (.list .byte)) [] (fun r => (r, ())) (fun y => y.1) (fun _ => rfl)
def F_bytes_TrimSuffix_hp : List (Nat × BPt) := []
def F_bytes_TrimSuffix_args : List Pt := [.h (.list .byte), .h (.list .byte)]
def F_bytes_TrimSuffix_ent (r : (List UInt8) → (List UInt8) → Option ((List UInt8))) : Ent := { key := .fn 65, args := F_bytes_TrimSuffix_args, hp := F_bytes_TrimSuffix_hp, R := ((List UInt8)), F := fun d _ => r d.1 d.2.1, out := F_bytes_TrimSuffix_out }
noncomputable def F_bytes_TrimSuffix_cx : Cx := { P := Tryz.prog, tb := ⟨[F_bytes_HasSuffix_ent F_bytes_HasSuffix], etys, false⟩, fn := Tryz.f65, f := 65, ids := idsB F_bytes_TrimSuffix_hp, rd := none, tags := [] }
theorem F_bytes_TrimSuffix_cxok : (F_bytes_TrimSuffix_cx).Ok (bodyOf Tryz.f65) := ⟨(ents1 F_bytes_HasSuffix_ok ents0), Tryz_mixed, Tryz.func65, tags0⟩
theorem F_bytes_TrimSuffix_ok : (F_bytes_TrimSuffix_ent (F_bytes_TrimSuffix)).Sound Tryz.prog :=
  Ent.sound_fn (cx := F_bytes_TrimSuffix_cx) (labs := []) (F_bytes_TrimSuffix_cxok) rfl rfl rfl rfl Tryz.call65 (by kernel_rfl) (fun _ => labs0) (fun d d' => by kernel_rfl)
/- posthouse/header.line -/
def F_header_line_out : RS ((List UInt8) × Int) := .one (α := (List UInt8) × Int) (.tup [.h .str, .h (.int .i64)]) [] (fun r => ((r.1, (r.2, ())), ())) (fun y => (y.1.1, y.1.2.1)) (fun _ => rfl)
def F_header_line_hp : List (Nat × BPt) := []
def F_header_line_args : List Pt := [.h (.list .byte)]
def F_header_line_ent (r : (List UInt8) → Option ((List UInt8) × Int)) : Ent := { key := .fn 43, args := F_header_line_args, hp := F_header_line_hp, R := ((List UInt8) × Int), F := fun d _ => r d.1, out := F_header_line_out }
noncomputable def F_header_line_cx : Cx := { P := Tryz.prog, tb := ⟨[F_bytes_IndexByte_ent F_bytes_IndexByte, F_bytes_TrimSuffix_ent F_bytes_TrimSuffix], etys, false⟩, fn := Tryz.f43, f := 43, ids := idsB F_header_line_hp, rd := none, tags := [] }
theorem F_header_line_cxok : (F_header_line_cx).Ok (bodyOf Tryz.f43) := ⟨(ents1 F_bytes_IndexByte_ok (ents1 F_bytes_TrimSuffix_ok ents0)), Tryz_mixed, Tryz.func43, tags0⟩
theorem F_header_line_ok : (F_header_line_ent (F_header_line)).Sound Tryz.prog :=
  Ent.sound_fn (cx := F_header_line_cx) (labs := []) (F_header_line_cxok) rfl rfl rfl rfl Tryz.call43 (by kernel_rfl) (fun _ => labs0) (fun d d' => by kernel_rfl)
/- posthouse/basic.Blank -/
def F_basic_Blank_out : RS Bool := .one (α := Bool) (.h .bool) [] (fun r => (r, ())) (fun y => y.1) (fun _ => rfl)
def F_basic_Blank_hp : List (Nat × BPt) := []
def F_basic_Blank_args : List Pt := [.h .byte]
def F_basic_Blank_ent (r : UInt8 → Option Bool) : Ent := { key := .fn 44, args := F_basic_Blank_args, hp := F_basic_Blank_hp, R := Bool, F := fun d _ => r d.1, out := F_basic_Blank_out }
noncomputable def F_basic_Blank_cx : Cx := { P := Tryz.prog, tb := ⟨[], etys, false⟩, fn := Tryz.f44, f := 44, ids := idsB F_basic_Blank_hp, rd := none, tags := [] }
theorem F_basic_Blank_cxok : (F_basic_Blank_cx).Ok (bodyOf Tryz.f44) := ⟨ents0, Tryz_mixed, Tryz.func44, tags0⟩
theorem F_basic_Blank_ok : (F_basic_Blank_ent (F_basic_Blank)).Sound Tryz.prog :=
  Ent.sound_fn (cx := F_basic_Blank_cx) (labs := []) (F_basic_Blank_cxok) rfl rfl rfl rfl Tryz.call44 (by kernel_rfl) (fun _ => labs0) (fun d d' => by kernel_rfl)
/- strings.NewReplacer -/
def F_strings_NewReplacer_out : RS (Int × Int × Int × (List (List UInt8))) := .one (α := Int × Int × Int × (List (List UInt8))) (.ptr 0 0) [(0, .cells [.h (.int .u32), .h (.int .i32), .h (.int .u32), .c .nilIface, .own 1] 100), (1, .row .str 9)] (fun r => ((), ((r.1, (r.2.1, (r.2.2.1, ((), ((), ()))))), (r.2.2.2, ())))) (fun y => (y.2.1.1, y.2.1.2.1, y.2.1.2.2.1, y.2.2.1)) (fun _ => rfl)
def F_strings_NewReplacer_hp : List (Nat × BPt) := []
def F_strings_NewReplacer_args : List Pt := [.h (.list .str)]
def F_strings_NewReplacer_ent (r : (List (List UInt8)) → Option (Int × Int × Int × (List (List UInt8)))) : Ent := { key := .fn 46, args := F_strings_NewReplacer_args, hp := F_strings_NewReplacer_hp, R := (Int × Int × Int × (List (List UInt8))), F := fun d _ => r d.1, out := F_strings_NewReplacer_out }
noncomputable def F_strings_NewReplacer_cx : Cx := { P := Tryz.prog, tb := ⟨[], etys, false⟩, fn := Tryz.f46, f := 46, ids := idsB F_strings_NewReplacer_hp, rd := none, tags := [] }
theorem F_strings_NewReplacer_cxok : (F_strings_NewReplacer_cx).Ok (bodyOf Tryz.f46) := ⟨ents0, Tryz_mixed, Tryz.func46, tags0⟩
theorem F_strings_NewReplacer_ok : (F_strings_NewReplacer_ent (F_strings_NewReplacer)).Sound Tryz.prog :=
  Ent.sound_fn (cx := F_strings_NewReplacer_cx) (labs := []) (F_strings_NewReplacer_cxok) rfl rfl rfl rfl Tryz.call46 (by kernel_rfl) (fun _ => labs0) (fun d d' => by kernel_rfl)
/- posthouse/basic.None -/
def F_basic_None_out : RS ((Int × Int)) := .one (α := (Int × Int)) (.h (.prod (.int .i64) (.int .i64))) [] (fun r => (r, ())) (fun y => y.1) (fun _ => rfl)
def F_basic_None_hp : List (Nat × BPt) := []
def F_basic_None_args : List Pt := []
def F_basic_None_ent (r : Option ((Int × Int))) : Ent := { key := .fn 24, args := F_basic_None_args, hp := F_basic_None_hp, R := ((Int × Int)), F := fun _ _ => r, out := F_basic_None_out }
noncomputable def F_basic_None_cx : Cx := { P := Tryz.prog, tb := ⟨[], etys, false⟩, fn := Tryz.f24, f := 24, ids := idsB F_basic_None_hp, rd := none, tags := [] }
theorem F_basic_None_cxok : (F_basic_None_cx).Ok (bodyOf Tryz.f24) := ⟨ents0, Tryz_mixed, Tryz.func24, tags0⟩
theorem F_basic_None_ok : (F_basic_None_ent (F_basic_None)).Sound Tryz.prog :=
  Ent.sound_fn (cx := F_basic_None_cx) (labs := []) (F_basic_None_cxok) rfl rfl rfl rfl Tryz.call24 (by kernel_rfl) (fun _ => labs0) (fun d d' => by kernel_rfl)
/- internal/stringslite.IndexByte -/
def F_internal_stringslite_IndexByte_out : RS Int := .one (α := Int) (.h (.int .i64)) [] (fun r => (r, ())) (fun y => y.1) (fun _ => rfl)
def F_internal_stringslite_IndexByte_hp : List (Nat × BPt) := []
def F_internal_stringslite_IndexByte_args : List Pt := [.h .str, .h .byte]
def F_internal_stringslite_IndexByte_ent (r : (List UInt8) → UInt8 → Option Int) : Ent := { key := .fn 114, args := F_internal_stringslite_IndexByte_args, hp := F_internal_stringslite_IndexByte_hp, R := Int, F := fun d _ => r d.1 d.2.1, out := F_internal_stringslite_IndexByte_out }
noncomputable def F_internal_stringslite_IndexByte_cx : Cx := { P := Tryz.prog, tb := ⟨[F_bytealg_IndexByteString_ent 122 F_bytealg_IndexByte], etys, false⟩, fn := Tryz.f114, f := 114, ids := idsB F_internal_stringslite_IndexByte_hp, rd := none, tags := [] }
theorem F_internal_stringslite_IndexByte_cxok : (F_internal_stringslite_IndexByte_cx).Ok (bodyOf Tryz.f114) := ⟨(ents1 F_bytealg_IndexByteString_ok122 ents0), Tryz_mixed, Tryz.func114, tags0⟩
theorem F_internal_stringslite_IndexByte_ok : (F_internal_stringslite_IndexByte_ent (F_internal_stringslite_IndexByte)).Sound Tryz.prog :=
  Ent.sound_fn (cx := F_internal_stringslite_IndexByte_cx) (labs := []) (F_internal_stringslite_IndexByte_cxok) rfl rfl rfl rfl Tryz.call114 (by kernel_rfl) (fun _ => labs0) (fun d d' => by kernel_rfl)
/- internal/stringslite.Index -/
def F_internal_stringslite_Index_out : RS Int := .one (α := Int) (.h (.int .i64)) [] (fun r => (r, ())) (fun y => y.1) (fun _ => rfl)
def F_internal_stringslite_Index_hp : List (Nat × BPt) := []
def F_internal_stringslite_Index_args : List Pt := [.h .str, .h .str]
def F_internal_stringslite_Index_ent (r : (List UInt8) → (List UInt8) → Option Int) : Ent := { key := .fn 105, args := F_internal_stringslite_Index_args, hp := F_internal_stringslite_Index_hp, R := Int, F := fun d _ => r d.1 d.2.1, out := F_internal_stringslite_Index_out }
noncomputable def F_internal_stringslite_Index_cx : Cx := { P := Tryz.prog, tb := ⟨[F_internal_stringslite_IndexByte_ent F_internal_stringslite_IndexByte], etys, false⟩, fn := Tryz.f105, f := 105, ids := idsB F_internal_stringslite_Index_hp, rd := none, tags := [] }
theorem F_internal_stringslite_Index_cxok : (F_internal_stringslite_Index_cx).Ok (bodyOf Tryz.f105) := ⟨(ents1 F_internal_stringslite_IndexByte_ok ents0), Tryz_mixed, Tryz.func105, tags0⟩
def F_internal_stringslite_Index_l0 (r : (List UInt8) → (List UInt8) → Int → Bool → Option Int) : Lab Int := ⟨[(0, [1, 0, 0, 1, 1]), (1, [0, 1, 1]), (0, [1, 1, 1])], ⟨143, [(0, .h .str), (1, .h .str), (5, .h (.int .i64)), (16, .h .bool)], [], 64, []⟩, fun d => r d.1.1 d.1.2.1 d.1.2.2.1 d.1.2.2.2.1⟩
theorem F_internal_stringslite_Index_p0_ok (d' : bden F_internal_stringslite_Index_hp) : LabOk (F_internal_stringslite_Index_cx) (bput F_internal_stringslite_Index_hp d') F_internal_stringslite_Index_out (bodyOf Tryz.f105) (F_internal_stringslite_Index_l0 (F_internal_stringslite_Index_p0)) :=
  LabOk.of_run (labs := []) (F_internal_stringslite_Index_cxok) (fun _ _ h => idsB_look h) labs0 (fun d => by kernel_rfl)
theorem F_internal_stringslite_Index_ok : (F_internal_stringslite_Index_ent (F_internal_stringslite_Index)).Sound Tryz.prog :=
  Ent.sound_fn (cx := F_internal_stringslite_Index_cx) (labs := [F_internal_stringslite_Index_l0 (F_internal_stringslite_Index_p0)]) (F_internal_stringslite_Index_cxok) rfl rfl rfl rfl Tryz.call105 (by kernel_rfl) (fun d' => (labs1 (F_internal_stringslite_Index_p0_ok d') labs0)) (fun d d' => by kernel_rfl)
/- internal/stringslite.Cut -/
def F_internal_stringslite_Cut_out : RS ((List UInt8) × (List UInt8) × Bool) := .one (α := (List UInt8) × (List UInt8) × Bool) (.tup [.h .str, .h .str, .h .bool]) [] (fun r => ((r.1, (r.2.1, (r.2.2, ()))), ())) (fun y => (y.1.1, y.1.2.1, y.1.2.2.1)) (fun _ => rfl)
def F_internal_stringslite_Cut_hp : List (Nat × BPt) := []
def F_internal_stringslite_Cut_args : List Pt := [.h .str, .h .str]
def F_internal_stringslite_Cut_ent (r : (List UInt8) → (List UInt8) → Option ((List UInt8) × (List UInt8) × Bool)) : Ent := { key := .fn 90, args := F_internal_stringslite_Cut_args, hp := F_internal_stringslite_Cut_hp, R := ((List UInt8) × (List UInt8) × Bool), F := fun d _ => r d.1 d.2.1, out := F_internal_stringslite_Cut_out }
noncomputable def F_internal_stringslite_Cut_cx : Cx := { P := Tryz.prog, tb := ⟨[F_internal_stringslite_Index_ent F_internal_stringslite_Index], etys, false⟩, fn := Tryz.f90, f := 90, ids := idsB F_internal_stringslite_Cut_hp, rd := none, tags := [] }
theorem F_internal_stringslite_Cut_cxok : (F_internal_stringslite_Cut_cx).Ok (bodyOf Tryz.f90) := ⟨(ents1 F_internal_stringslite_Index_ok ents0), Tryz_mixed, Tryz.func90, tags0⟩
theorem F_internal_stringslite_Cut_ok : (F_internal_stringslite_Cut_ent (F_internal_stringslite_Cut)).Sound Tryz.prog :=
  Ent.sound_fn (cx := F_internal_stringslite_Cut_cx) (labs := []) (F_internal_stringslite_Cut_cxok) rfl rfl rfl rfl Tryz.call90 (by kernel_rfl) (fun _ => labs0) (fun d d' => by kernel_rfl)
/- strings.Cut -/
def F_strings_Cut_out : RS ((List UInt8) × (List UInt8) × Bool) := .one (α := (List UInt8) × (List UInt8) × Bool) (.tup [.h .str, .h .str, .h .bool]) [] (fun r => ((r.1, (r.2.1, (r.2.2, ()))), ())) (fun y => (y.1.1, y.1.2.1, y.1.2.2.1)) (fun _ => rfl)
def F_strings_Cut_hp : List (Nat × BPt) := []
def F_strings_Cut_args : List Pt := [.h .str, .h .str]
def F_strings_Cut_ent (r : (List UInt8) → (List UInt8) → Option ((List UInt8) × (List UInt8) × Bool)) : Ent := { key := .fn 66, args := F_strings_Cut_args, hp := F_strings_Cut_hp, R := ((List UInt8) × (List UInt8) × Bool), F := fun d _ => r d.1 d.2.1, out := F_strings_Cut_out }
noncomputable def F_strings_Cut_cx : Cx := { P := Tryz.prog, tb := ⟨[F_internal_stringslite_Cut_ent F_internal_stringslite_Cut], etys, false⟩, fn := Tryz.f66, f := 66, ids := idsB F_strings_Cut_hp, rd := none, tags := [] }
theorem F_strings_Cut_cxok : (F_strings_Cut_cx).Ok (bodyOf Tryz.f66) := ⟨(ents1 F_internal_stringslite_Cut_ok ents0), Tryz_mixed, Tryz.func66, tags0⟩
theorem F_strings_Cut_ok : (F_strings_Cut_ent (F_strings_Cut)).Sound Tryz.prog :=
  Ent.sound_fn (cx := F_strings_Cut_cx) (labs := []) (F_strings_Cut_cxok) rfl rfl rfl rfl Tryz.call66 (by kernel_rfl) (fun _ => labs0) (fun d d' => by kernel_rfl)
/- strings.trimRightByte -/
def F_strings_trimRightByte_out : RS ((List UInt8)) := .one (α := (List UInt8)) (.h .str) [] (fun r => (r, ())) (fun y => y.1) (fun _ => rfl)
def F_strings_trimRightByte_hp : List (Nat × BPt) := []
def F_strings_trimRightByte_args : List Pt := [.h .str, .h .byte]
def F_strings_trimRightByte_ent (r : (List UInt8) → UInt8 → Option ((List UInt8))) : Ent := { key := .fn 70, args := F_strings_trimRightByte_args, hp := F_strings_trimRightByte_hp, R := ((List UInt8)), F := fun d _ => r d.1 d.2.1, out := F_strings_trimRightByte_out }
noncomputable def F_strings_trimRightByte_cx (fu : Nat) : Cx := { P := Tryz.prog, tb := ⟨[], etys, false⟩, fn := Tryz.f70, f := 70, ids := idsB F_strings_trimRightByte_hp, rd := none, tags := [] }
theorem F_strings_trimRightByte_cxok (fu : Nat) : (F_strings_trimRightByte_cx fu).Ok (bodyOf Tryz.f70) := ⟨ents0, Tryz_mixed, Tryz.func70, tags0⟩
def F_strings_trimRightByte_l0 (r : (List UInt8) → UInt8 → Option ((List UInt8))) : Lab ((List UInt8)) := ⟨[(0, [0, 0, 0, 0, 0, 1]), (0, [1, 0, 0, 0, 0, 1]), (0, [1, 0, 0, 0, 1]), (2, [0, 0, 1]), (1, [0, 1]), (0, [1, 1])], ⟨23, [(0, .h .str), (1, .h .byte)], [], 64, []⟩, fun d => r d.1.1 d.1.2.1⟩
theorem F_strings_trimRightByte_b0_ok (fu : Nat) (d' : bden F_strings_trimRightByte_hp) (r0 : (List UInt8) → UInt8 → Option ((List UInt8))) (h0 : LabOk (F_strings_trimRightByte_cx fu) (bput F_strings_trimRightByte_hp d') F_strings_trimRightByte_out (bodyOf Tryz.f70) (F_strings_trimRightByte_l0 r0)) : LabOk (F_strings_trimRightByte_cx fu) (bput F_strings_trimRightByte_hp d') F_strings_trimRightByte_out (bodyOf Tryz.f70) (F_strings_trimRightByte_l0 (F_strings_trimRightByte_b0 fu r0)) :=
  LabOk.of_run (labs := [F_strings_trimRightByte_l0 (r0)]) (F_strings_trimRightByte_cxok fu) (fun _ _ h => idsB_look h) (labs1 h0 labs0) (fun d => by kernel_rfl)
theorem F_strings_trimRightByte_p0_ok (fu : Nat) (d' : bden F_strings_trimRightByte_hp) : ∀ n, LabOk (F_strings_trimRightByte_cx fu) (bput F_strings_trimRightByte_hp d') F_strings_trimRightByte_out (bodyOf Tryz.f70) (F_strings_trimRightByte_l0 (F_strings_trimRightByte_p0 fu n))
  | 0 => fun _ _ h => by cases h
  | n + 1 => F_strings_trimRightByte_b0_ok fu d' (F_strings_trimRightByte_p0 fu n) (F_strings_trimRightByte_p0_ok fu d' n)
theorem F_strings_trimRightByte_ok (fu : Nat) : (F_strings_trimRightByte_ent (F_strings_trimRightByte fu)).Sound Tryz.prog :=
  Ent.sound_fn (cx := F_strings_trimRightByte_cx fu) (labs := [F_strings_trimRightByte_l0 (F_strings_trimRightByte_p0 fu fu)]) (F_strings_trimRightByte_cxok fu) rfl rfl rfl rfl Tryz.call70 (by kernel_rfl) (fun d' => (labs1 (F_strings_trimRightByte_p0_ok fu d' fu) labs0)) (fun d d' => by kernel_rfl)
/- strings.makeASCIISet -/
def F_strings_makeASCIISet_out : RS ((List Bool) × Bool) := .one (α := (List Bool) × Bool) (.tup [.arr .bool, .h .bool]) [] (fun r => ((r.1, (r.2, ())), ())) (fun y => (y.1.1, y.1.2.1)) (fun _ => rfl)
def F_strings_makeASCIISet_hp : List (Nat × BPt) := []
def F_strings_makeASCIISet_args : List Pt := [.h .str]
def F_strings_makeASCIISet_ent (r : (List UInt8) → Option ((List Bool) × Bool)) : Ent := { key := .fn 71, args := F_strings_makeASCIISet_args, hp := F_strings_makeASCIISet_hp, R := ((List Bool) × Bool), F := fun d _ => r d.1, out := F_strings_makeASCIISet_out }
noncomputable def F_strings_makeASCIISet_cx (fu : Nat) : Cx := { P := Tryz.prog, tb := ⟨[], etys, false⟩, fn := Tryz.f71, f := 71, ids := idsB F_strings_makeASCIISet_hp, rd := none, tags := [] }
theorem F_strings_makeASCIISet_cxok (fu : Nat) : (F_strings_makeASCIISet_cx fu).Ok (bodyOf Tryz.f71) := ⟨ents0, Tryz_mixed, Tryz.func71, tags0⟩
def F_strings_makeASCIISet_l0 (r : (List UInt8) → Int → (List Bool) → Option ((List Bool) × Bool)) : Lab ((List Bool) × Bool) := ⟨[(0, [0, 0, 0, 0, 1, 0, 1]), (0, [1, 0, 0, 0, 1, 0, 1]), (0, [1, 0, 0, 1, 0, 1]), (2, [0, 1, 0, 1]), (1, [1, 0, 1]), (0, [1, 1])], ⟨21, [(0, .h .str), (2, .el 16 1), (4, .h (.int .i64))], [(16, .row .bool 103)], 64, []⟩, fun d => r d.1.1 d.1.2.2.1 d.2.1⟩
theorem F_strings_makeASCIISet_b0_ok (fu : Nat) (d' : bden F_strings_makeASCIISet_hp) (r0 : (List UInt8) → Int → (List Bool) → Option ((List Bool) × Bool)) (h0 : LabOk (F_strings_makeASCIISet_cx fu) (bput F_strings_makeASCIISet_hp d') F_strings_makeASCIISet_out (bodyOf Tryz.f71) (F_strings_makeASCIISet_l0 r0)) : LabOk (F_strings_makeASCIISet_cx fu) (bput F_strings_makeASCIISet_hp d') F_strings_makeASCIISet_out (bodyOf Tryz.f71) (F_strings_makeASCIISet_l0 (F_strings_makeASCIISet_b0 fu r0)) :=
  LabOk.of_run (labs := [F_strings_makeASCIISet_l0 (r0)]) (F_strings_makeASCIISet_cxok fu) (fun _ _ h => idsB_look h) (labs1 h0 labs0) (fun d => by kernel_rfl)
theorem F_strings_makeASCIISet_p0_ok (fu : Nat) (d' : bden F_strings_makeASCIISet_hp) : ∀ n, LabOk (F_strings_makeASCIISet_cx fu) (bput F_strings_makeASCIISet_hp d') F_strings_makeASCIISet_out (bodyOf Tryz.f71) (F_strings_makeASCIISet_l0 (F_strings_makeASCIISet_p0 fu n))
  | 0 => fun _ _ h => by cases h
  | n + 1 => F_strings_makeASCIISet_b0_ok fu d' (F_strings_makeASCIISet_p0 fu n) (F_strings_makeASCIISet_p0_ok fu d' n)
theorem F_strings_makeASCIISet_ok (fu : Nat) : (F_strings_makeASCIISet_ent (F_strings_makeASCIISet fu)).Sound Tryz.prog :=
  Ent.sound_fn (cx := F_strings_makeASCIISet_cx fu) (labs := [F_strings_makeASCIISet_l0 (F_strings_makeASCIISet_p0 fu fu)]) (F_strings_makeASCIISet_cxok fu) rfl rfl rfl rfl Tryz.call71 (by kernel_rfl) (fun d' => (labs1 (F_strings_makeASCIISet_p0_ok fu d' fu) labs0)) (fun d d' => by kernel_rfl)
/- (*strings.asciiSet).contains -/
def F_strings_asciiSet_contains_out : RS (Bool × (List Bool)) := .one (α := Bool × (List Bool)) (.h .bool) [(0, .row .bool 103)] (fun r => (r.1, (r.2, ()))) (fun y => (y.1, y.2.1)) (fun _ => rfl)
def F_strings_asciiSet_contains_hp : List (Nat × BPt) := [(0, .row .bool 103)]
def F_strings_asciiSet_contains_args : List Pt := [.el 0 1, .h .byte]
def F_strings_asciiSet_contains_ent (r : UInt8 → (List Bool) → Option (Bool × (List Bool))) : Ent := { key := .fn 87, args := F_strings_asciiSet_contains_args, hp := F_strings_asciiSet_contains_hp, R := (Bool × (List Bool)), F := fun d d' => r d.2.1 d'.1, out := F_strings_asciiSet_contains_out }
noncomputable def F_strings_asciiSet_contains_cx : Cx := { P := Tryz.prog, tb := ⟨[], etys, false⟩, fn := Tryz.f87, f := 87, ids := idsB F_strings_asciiSet_contains_hp, rd := none, tags := [] }
theorem F_strings_asciiSet_contains_cxok : (F_strings_asciiSet_contains_cx).Ok (bodyOf Tryz.f87) := ⟨ents0, Tryz_mixed, Tryz.func87, tags0⟩
theorem F_strings_asciiSet_contains_ok : (F_strings_asciiSet_contains_ent (F_strings_asciiSet_contains)).Sound Tryz.prog :=
  Ent.sound_fn (cx := F_strings_asciiSet_contains_cx) (labs := []) (F_strings_asciiSet_contains_cxok) rfl rfl rfl rfl Tryz.call87 (by kernel_rfl) (fun _ => labs0) (fun d d' => by kernel_rfl)
/- strings.trimRightASCII -/
def F_strings_trimRightASCII_out : RS ((List UInt8) × (List Bool)) := .one (α := (List UInt8) × (List Bool)) (.h .str) [(0, .row .bool 103)] (fun r => (r.1, (r.2, ()))) (fun y => (y.1, y.2.1)) (fun _ => rfl)
def F_strings_trimRightASCII_hp : List (Nat × BPt) := [(0, .row .bool 103)]
def F_strings_trimRightASCII_args : List Pt := [.h .str, .el 0 1]
def F_strings_trimRightASCII_ent (r : (List UInt8) → (List Bool) → Option ((List UInt8) × (List Bool))) : Ent := { key := .fn 73, args := F_strings_trimRightASCII_args, hp := F_strings_trimRightASCII_hp, R := ((List UInt8) × (List Bool)), F := fun d d' => r d.1 d'.1, out := F_strings_trimRightASCII_out }
noncomputable def F_strings_trimRightASCII_cx (fu : Nat) : Cx := { P := Tryz.prog, tb := ⟨[F_strings_asciiSet_contains_ent F_strings_asciiSet_contains], etys, false⟩, fn := Tryz.f73, f := 73, ids := idsB F_strings_trimRightASCII_hp, rd := none, tags := [] }
theorem F_strings_trimRightASCII_cxok (fu : Nat) : (F_strings_trimRightASCII_cx fu).Ok (bodyOf Tryz.f73) := ⟨(ents1 F_strings_asciiSet_contains_ok ents0), Tryz_mixed, Tryz.func73, tags0⟩
def F_strings_trimRightASCII_l0 (r : (List UInt8) → (List Bool) → Option ((List UInt8) × (List Bool))) : Lab ((List UInt8) × (List Bool)) := ⟨[(0, [0, 0, 0, 0, 0, 1]), (0, [1, 0, 0, 0, 0, 1]), (0, [1, 0, 0, 0, 1]), (2, [0, 0, 1]), (1, [0, 1]), (0, [1, 1])], ⟨22, [(0, .h .str), (1, .el 0 1)], [(0, .row .bool 103)], 64, []⟩, fun d => r d.1.1 d.2.1⟩
theorem F_strings_trimRightASCII_b0_ok (fu : Nat) (d' : bden F_strings_trimRightASCII_hp) (r0 : (List UInt8) → (List Bool) → Option ((List UInt8) × (List Bool))) (h0 : LabOk (F_strings_trimRightASCII_cx fu) (bput F_strings_trimRightASCII_hp d') F_strings_trimRightASCII_out (bodyOf Tryz.f73) (F_strings_trimRightASCII_l0 r0)) : LabOk (F_strings_trimRightASCII_cx fu) (bput F_strings_trimRightASCII_hp d') F_strings_trimRightASCII_out (bodyOf Tryz.f73) (F_strings_trimRightASCII_l0 (F_strings_trimRightASCII_b0 fu r0)) :=
  LabOk.of_run (labs := [F_strings_trimRightASCII_l0 (r0)]) (F_strings_trimRightASCII_cxok fu) (fun _ _ h => idsB_look h) (labs1 h0 labs0) (fun d => by kernel_rfl)
theorem F_strings_trimRightASCII_p0_ok (fu : Nat) (d' : bden F_strings_trimRightASCII_hp) : ∀ n, LabOk (F_strings_trimRightASCII_cx fu) (bput F_strings_trimRightASCII_hp d') F_strings_trimRightASCII_out (bodyOf Tryz.f73) (F_strings_trimRightASCII_l0 (F_strings_trimRightASCII_p0 fu n))
  | 0 => fun _ _ h => by cases h
  | n + 1 => F_strings_trimRightASCII_b0_ok fu d' (F_strings_trimRightASCII_p0 fu n) (F_strings_trimRightASCII_p0_ok fu d' n)
theorem F_strings_trimRightASCII_ok (fu : Nat) : (F_strings_trimRightASCII_ent (F_strings_trimRightASCII fu)).Sound Tryz.prog :=
  Ent.sound_fn (cx := F_strings_trimRightASCII_cx fu) (labs := [F_strings_trimRightASCII_l0 (F_strings_trimRightASCII_p0 fu fu)]) (F_strings_trimRightASCII_cxok fu) rfl rfl rfl rfl Tryz.call73 (by kernel_rfl) (fun d' => (labs1 (F_strings_trimRightASCII_p0_ok fu d' fu) labs0)) (fun d d' => by kernel_rfl)
/- unicode/utf8.RuneStart -/
def F_unicode_utf8_RuneStart_out : RS Bool := .one (α := Bool) (.h .bool) [] (fun r => (r, ())) (fun y => y.1) (fun _ => rfl)
def F_unicode_utf8_RuneStart_hp : List (Nat × BPt) := []
def F_unicode_utf8_RuneStart_args : List Pt := [.h .byte]
def F_unicode_utf8_RuneStart_ent (r : UInt8 → Option Bool) : Ent := { key := .fn 107, args := F_unicode_utf8_RuneStart_args, hp := F_unicode_utf8_RuneStart_hp, R := Bool, F := fun d _ => r d.1, out := F_unicode_utf8_RuneStart_out }
noncomputable def F_unicode_utf8_RuneStart_cx : Cx := { P := Tryz.prog, tb := ⟨[], etys, false⟩, fn := Tryz.f107, f := 107, ids := idsB F_unicode_utf8_RuneStart_hp, rd := none, tags := [] }
theorem F_unicode_utf8_RuneStart_cxok : (F_unicode_utf8_RuneStart_cx).Ok (bodyOf Tryz.f107) := ⟨ents0, Tryz_mixed, Tryz.func107, tags0⟩
theorem F_unicode_utf8_RuneStart_ok : (F_unicode_utf8_RuneStart_ent (F_unicode_utf8_RuneStart)).Sound Tryz.prog :=
  Ent.sound_fn (cx := F_unicode_utf8_RuneStart_cx) (labs := []) (F_unicode_utf8_RuneStart_cxok) rfl rfl rfl rfl Tryz.call107 (by kernel_rfl) (fun _ => labs0) (fun d d' => by kernel_rfl)
/- unicode/utf8.decodeRuneInStringSlow -/
def F_unicode_utf8_decodeRuneInStringSlow_out : RS (Int × Int) := .one (α := Int × Int) (.tup [.h (.int .i32), .h (.int .i64)]) [] (fun r => ((r.1, (r.2, ())), ())) (fun y => (y.1.1, y.1.2.1)) (fun _ => rfl)
def F_unicode_utf8_decodeRuneInStringSlow_hp : List (Nat × BPt) := []
def F_unicode_utf8_decodeRuneInStringSlow_args : List Pt := [.h .str]
def F_unicode_utf8_decodeRuneInStringSlow_ent (r : (List UInt8) → Option (Int × Int)) : Ent := { key := .fn 106, args := F_unicode_utf8_decodeRuneInStringSlow_args, hp := F_unicode_utf8_decodeRuneInStringSlow_hp, R := (Int × Int), F := fun d _ => r d.1, out := F_unicode_utf8_decodeRuneInStringSlow_out }
noncomputable def F_unicode_utf8_decodeRuneInStringSlow_cx : Cx := { P := Tryz.prog, tb := ⟨[], etys, false⟩, fn := Tryz.f106, f := 106, ids := idsB F_unicode_utf8_decodeRuneInStringSlow_hp, rd := none, tags := [] }
theorem F_unicode_utf8_decodeRuneInStringSlow_cxok : (F_unicode_utf8_decodeRuneInStringSlow_cx).Ok (bodyOf Tryz.f106) := ⟨ents0, Tryz_mixed, Tryz.func106, tags0⟩
theorem F_unicode_utf8_decodeRuneInStringSlow_ok : (F_unicode_utf8_decodeRuneInStringSlow_ent (F_unicode_utf8_decodeRuneInStringSlow)).Sound Tryz.prog :=
  Ent.sound_fn (cx := F_unicode_utf8_decodeRuneInStringSlow_cx) (labs := []) (F_unicode_utf8_decodeRuneInStringSlow_cxok) rfl rfl rfl rfl Tryz.call106 (by kernel_rfl) (fun _ => labs0) (fun d d' => by kernel_rfl)
/- unicode/utf8.DecodeRuneInString -/
def F_unicode_utf8_DecodeRuneInString_out : RS (Int × Int) := .one (α := Int × Int) (.tup [.h (.int .i32), .h (.int .i64)]) [] (fun r => ((r.1, (r.2, ())), ())) (fun y => (y.1.1, y.1.2.1)) (fun _ => rfl)
def F_unicode_utf8_DecodeRuneInString_hp : List (Nat × BPt) := []
def F_unicode_utf8_DecodeRuneInString_args : List Pt := [.h .str]
def F_unicode_utf8_DecodeRuneInString_ent (r : (List UInt8) → Option (Int × Int)) : Ent := { key := .fn 91, args := F_unicode_utf8_DecodeRuneInString_args, hp := F_unicode_utf8_DecodeRuneInString_hp, R := (Int × Int), F := fun d _ => r d.1, out := F_unicode_utf8_DecodeRuneInString_out }
noncomputable def F_unicode_utf8_DecodeRuneInString_cx : Cx := { P := Tryz.prog, tb := ⟨[F_unicode_utf8_decodeRuneInStringSlow_ent F_unicode_utf8_decodeRuneInStringSlow], etys, false⟩, fn := Tryz.f91, f := 91, ids := idsB F_unicode_utf8_DecodeRuneInString_hp, rd := none, tags := [] }
theorem F_unicode_utf8_DecodeRuneInString_cxok : (F_unicode_utf8_DecodeRuneInString_cx).Ok (bodyOf Tryz.f91) := ⟨(ents1 F_unicode_utf8_decodeRuneInStringSlow_ok ents0), Tryz_mixed, Tryz.func91, tags0⟩
theorem F_unicode_utf8_DecodeRuneInString_ok : (F_unicode_utf8_DecodeRuneInString_ent (F_unicode_utf8_DecodeRuneInString)).Sound Tryz.prog :=
  Ent.sound_fn (cx := F_unicode_utf8_DecodeRuneInString_cx) (labs := []) (F_unicode_utf8_DecodeRuneInString_cxok) rfl rfl rfl rfl Tryz.call91 (by kernel_rfl) (fun _ => labs0) (fun d d' => by kernel_rfl)
/- unicode/utf8.DecodeLastRuneInString -/
def F_unicode_utf8_DecodeLastRuneInString_out : RS (Int × Int) := .one (α := Int × Int) (.tup [.h (.int .i32), .h (.int .i64)]) [] (fun r => ((r.1, (r.2, ())), ())) (fun y => (y.1.1, y.1.2.1)) (fun _ => rfl)
def F_unicode_utf8_DecodeLastRuneInString_hp : List (Nat × BPt) := []
def F_unicode_utf8_DecodeLastRuneInString_args : List Pt := [.h .str]
def F_unicode_utf8_DecodeLastRuneInString_ent (r : (List UInt8) → Option (Int × Int)) : Ent := { key := .fn 93, args := F_unicode_utf8_DecodeLastRuneInString_args, hp := F_unicode_utf8_DecodeLastRuneInString_hp, R := (Int × Int), F := fun d _ => r d.1, out := F_unicode_utf8_DecodeLastRuneInString_out }
noncomputable def F_unicode_utf8_DecodeLastRuneInString_cx (fu : Nat) : Cx := { P := Tryz.prog, tb := ⟨[F_unicode_utf8_RuneStart_ent F_unicode_utf8_RuneStart, F_unicode_utf8_DecodeRuneInString_ent F_unicode_utf8_DecodeRuneInString], etys, false⟩, fn := Tryz.f93, f := 93, ids := idsB F_unicode_utf8_DecodeLastRuneInString_hp, rd := none, tags := [] }
theorem F_unicode_utf8_DecodeLastRuneInString_cxok (fu : Nat) : (F_unicode_utf8_DecodeLastRuneInString_cx fu).Ok (bodyOf Tryz.f93) := ⟨(ents1 F_unicode_utf8_RuneStart_ok (ents1 F_unicode_utf8_DecodeRuneInString_ok ents0)), Tryz_mixed, Tryz.func93, tags0⟩
def F_unicode_utf8_DecodeLastRuneInString_l2 (r : (List UInt8) → Int → Int → Option (Int × Int)) : Lab (Int × Int) := ⟨[(0, [0, 1, 1, 1, 1, 1, 1, 1, 1, 1]), (0, [1, 1, 1, 1, 1, 1, 1, 1, 1, 1])], ⟨51, [(0, .h .str), (4, .h (.int .i64)), (5, .h (.int .i64))], [], 64, []⟩, fun d => r d.1.1 d.1.2.1 d.1.2.2.1⟩
def F_unicode_utf8_DecodeLastRuneInString_l1 (r : (List UInt8) → Int → Int → Option (Int × Int)) : Lab (Int × Int) := ⟨[(0, [0, 0, 1, 1, 1, 1, 1, 1, 1, 1]), (0, [1, 0, 1, 1, 1, 1, 1, 1, 1, 1]), (0, [1, 1, 1, 1, 1, 1, 1, 1, 1])], ⟨51, [(0, .h .str), (4, .h (.int .i64)), (5, .h (.int .i64))], [], 64, []⟩, fun d => r d.1.1 d.1.2.1 d.1.2.2.1⟩
def F_unicode_utf8_DecodeLastRuneInString_l0 (r : (List UInt8) → Int → Int → Int → Option (Int × Int)) : Lab (Int × Int) := ⟨[(0, [0, 0, 0, 0, 1, 0, 1, 1, 1, 1, 1, 1, 1]), (0, [1, 0, 0, 0, 1, 0, 1, 1, 1, 1, 1, 1, 1]), (0, [1, 0, 0, 1, 0, 1, 1, 1, 1, 1, 1, 1]), (2, [0, 1, 0, 1, 1, 1, 1, 1, 1, 1]), (1, [1, 0, 1, 1, 1, 1, 1, 1, 1]), (0, [1, 1, 1, 1, 1, 1, 1, 1])], ⟨51, [(0, .h .str), (4, .h (.int .i64)), (5, .h (.int .i64)), (6, .h (.int .i64))], [], 64, []⟩, fun d => r d.1.1 d.1.2.1 d.1.2.2.1 d.1.2.2.2.1⟩
theorem F_unicode_utf8_DecodeLastRuneInString_p2_ok (fu : Nat) (d' : bden F_unicode_utf8_DecodeLastRuneInString_hp) : LabOk (F_unicode_utf8_DecodeLastRuneInString_cx fu) (bput F_unicode_utf8_DecodeLastRuneInString_hp d') F_unicode_utf8_DecodeLastRuneInString_out (bodyOf Tryz.f93) (F_unicode_utf8_DecodeLastRuneInString_l2 (F_unicode_utf8_DecodeLastRuneInString_p2 fu)) :=
  LabOk.of_run (labs := []) (F_unicode_utf8_DecodeLastRuneInString_cxok fu) (fun _ _ h => idsB_look h) labs0 (fun d => by kernel_rfl)
theorem F_unicode_utf8_DecodeLastRuneInString_p1_ok (fu : Nat) (d' : bden F_unicode_utf8_DecodeLastRuneInString_hp) : LabOk (F_unicode_utf8_DecodeLastRuneInString_cx fu) (bput F_unicode_utf8_DecodeLastRuneInString_hp d') F_unicode_utf8_DecodeLastRuneInString_out (bodyOf Tryz.f93) (F_unicode_utf8_DecodeLastRuneInString_l1 (F_unicode_utf8_DecodeLastRuneInString_p1 fu)) :=
  LabOk.of_run (labs := [F_unicode_utf8_DecodeLastRuneInString_l2 (F_unicode_utf8_DecodeLastRuneInString_p2 fu)]) (F_unicode_utf8_DecodeLastRuneInString_cxok fu) (fun _ _ h => idsB_look h) (labs1 (F_unicode_utf8_DecodeLastRuneInString_p2_ok fu d') labs0) (fun d => by kernel_rfl)
theorem F_unicode_utf8_DecodeLastRuneInString_b0_ok (fu : Nat) (d' : bden F_unicode_utf8_DecodeLastRuneInString_hp) (r0 : (List UInt8) → Int → Int → Int → Option (Int × Int)) (h0 : LabOk (F_unicode_utf8_DecodeLastRuneInString_cx fu) (bput F_unicode_utf8_DecodeLastRuneInString_hp d') F_unicode_utf8_DecodeLastRuneInString_out (bodyOf Tryz.f93) (F_unicode_utf8_DecodeLastRuneInString_l0 r0)) : LabOk (F_unicode_utf8_DecodeLastRuneInString_cx fu) (bput F_unicode_utf8_DecodeLastRuneInString_hp d') F_unicode_utf8_DecodeLastRuneInString_out (bodyOf Tryz.f93) (F_unicode_utf8_DecodeLastRuneInString_l0 (F_unicode_utf8_DecodeLastRuneInString_b0 fu r0)) :=
  LabOk.of_run (labs := [F_unicode_utf8_DecodeLastRuneInString_l1 (F_unicode_utf8_DecodeLastRuneInString_p1 fu), F_unicode_utf8_DecodeLastRuneInString_l0 (r0)]) (F_unicode_utf8_DecodeLastRuneInString_cxok fu) (fun _ _ h => idsB_look h) (labs1 (F_unicode_utf8_DecodeLastRuneInString_p1_ok fu d') (labs1 h0 labs0)) (fun d => by kernel_rfl)
theorem F_unicode_utf8_DecodeLastRuneInString_p0_ok (fu : Nat) (d' : bden F_unicode_utf8_DecodeLastRuneInString_hp) : ∀ n, LabOk (F_unicode_utf8_DecodeLastRuneInString_cx fu) (bput F_unicode_utf8_DecodeLastRuneInString_hp d') F_unicode_utf8_DecodeLastRuneInString_out (bodyOf Tryz.f93) (F_unicode_utf8_DecodeLastRuneInString_l0 (F_unicode_utf8_DecodeLastRuneInString_p0 fu n))
  | 0 => fun _ _ h => by cases h
  | n + 1 => F_unicode_utf8_DecodeLastRuneInString_b0_ok fu d' (F_unicode_utf8_DecodeLastRuneInString_p0 fu n) (F_unicode_utf8_DecodeLastRuneInString_p0_ok fu d' n)
theorem F_unicode_utf8_DecodeLastRuneInString_ok (fu : Nat) : (F_unicode_utf8_DecodeLastRuneInString_ent (F_unicode_utf8_DecodeLastRuneInString fu)).Sound Tryz.prog :=
  Ent.sound_fn (cx := F_unicode_utf8_DecodeLastRuneInString_cx fu) (labs := [F_unicode_utf8_DecodeLastRuneInString_l0 (F_unicode_utf8_DecodeLastRuneInString_p0 fu fu)]) (F_unicode_utf8_DecodeLastRuneInString_cxok fu) rfl rfl rfl rfl Tryz.call93 (by kernel_rfl) (fun d' => (labs1 (F_unicode_utf8_DecodeLastRuneInString_p0_ok fu d' fu) labs0)) (fun d d' => by kernel_rfl)
/- strings.IndexByte -/
def F_strings_IndexByte_out : RS Int := .one (α := Int) (.h (.int .i64)) [] (fun r => (r, ())) (fun y => y.1) (fun _ => rfl)
def F_strings_IndexByte_hp : List (Nat × BPt) := []
def F_strings_IndexByte_args : List Pt := [.h .str, .h .byte]
def F_strings_IndexByte_ent (r : (List UInt8) → UInt8 → Option Int) : Ent := { key := .fn 100, args := F_strings_IndexByte_args, hp := F_strings_IndexByte_hp, R := Int, F := fun d _ => r d.1 d.2.1, out := F_strings_IndexByte_out }
noncomputable def F_strings_IndexByte_cx : Cx := { P := Tryz.prog, tb := ⟨[F_internal_stringslite_IndexByte_ent F_internal_stringslite_IndexByte], etys, false⟩, fn := Tryz.f100, f := 100, ids := idsB F_strings_IndexByte_hp, rd := none, tags := [] }
theorem F_strings_IndexByte_cxok : (F_strings_IndexByte_cx).Ok (bodyOf Tryz.f100) := ⟨(ents1 F_internal_stringslite_IndexByte_ok ents0), Tryz_mixed, Tryz.func100, tags0⟩
theorem F_strings_IndexByte_ok : (F_strings_IndexByte_ent (F_strings_IndexByte)).Sound Tryz.prog :=
  Ent.sound_fn (cx := F_strings_IndexByte_cx) (labs := []) (F_strings_IndexByte_cxok) rfl rfl rfl rfl Tryz.call100 (by kernel_rfl) (fun _ => labs0) (fun d d' => by kernel_rfl)
/- unicode/utf8.ValidRune -/
def F_unicode_utf8_ValidRune_out : RS Bool := .one (α := Bool) (.h .bool) [] (fun r => (r, ())) (fun y => y.1) (fun _ => rfl)
def F_unicode_utf8_ValidRune_hp : List (Nat × BPt) := []
def F_unicode_utf8_ValidRune_args : List Pt := [.h (.int .i32)]
def F_unicode_utf8_ValidRune_ent (r : Int → Option Bool) : Ent := { key := .fn 101, args := F_unicode_utf8_ValidRune_args, hp := F_unicode_utf8_ValidRune_hp, R := Bool, F := fun d _ => r d.1, out := F_unicode_utf8_ValidRune_out }
noncomputable def F_unicode_utf8_ValidRune_cx : Cx := { P := Tryz.prog, tb := ⟨[], etys, false⟩, fn := Tryz.f101, f := 101, ids := idsB F_unicode_utf8_ValidRune_hp, rd := none, tags := [] }
theorem F_unicode_utf8_ValidRune_cxok : (F_unicode_utf8_ValidRune_cx).Ok (bodyOf Tryz.f101) := ⟨ents0, Tryz_mixed, Tryz.func101, tags0⟩
theorem F_unicode_utf8_ValidRune_ok : (F_unicode_utf8_ValidRune_ent (F_unicode_utf8_ValidRune)).Sound Tryz.prog :=
  Ent.sound_fn (cx := F_unicode_utf8_ValidRune_cx) (labs := []) (F_unicode_utf8_ValidRune_cxok) rfl rfl rfl rfl Tryz.call101 (by kernel_rfl) (fun _ => labs0) (fun d d' => by kernel_rfl)
/- strings.IndexRune -/
def F_strings_IndexRune_out : RS Int := .one (α := Int) (.h (.int .i64)) [] (fun r => (r, ())) (fun y => y.1) (fun _ => rfl)
def F_strings_IndexRune_hp : List (Nat × BPt) := []
def F_strings_IndexRune_args : List Pt := [.h .str, .h (.int .i32)]
def F_strings_IndexRune_ent (r : (List UInt8) → Int → Option Int) : Ent := { key := .fn 85, args := F_strings_IndexRune_args, hp := F_strings_IndexRune_hp, R := Int, F := fun d _ => r d.1 d.2.1, out := F_strings_IndexRune_out }
noncomputable def F_strings_IndexRune_cx (fu : Nat) : Cx := { P := Tryz.prog, tb := ⟨[F_strings_IndexByte_ent F_strings_IndexByte, F_unicode_utf8_ValidRune_ent F_unicode_utf8_ValidRune], etys, false⟩, fn := Tryz.f85, f := 85, ids := idsB F_strings_IndexRune_hp, rd := none, tags := [] }
theorem F_strings_IndexRune_cxok (fu : Nat) : (F_strings_IndexRune_cx fu).Ok (bodyOf Tryz.f85) := ⟨(ents1 F_strings_IndexByte_ok (ents1 F_unicode_utf8_ValidRune_ok ents0)), Tryz_mixed, Tryz.func85, tags0⟩
def F_strings_IndexRune_l1 (r : (List UInt8) → Nat → Option Int) : Lab Int := ⟨[(0, [0, 0, 0, 1, 0, 0, 1, 1, 1, 0, 1]), (0, [1, 0, 0, 1, 0, 0, 1, 1, 1, 0, 1]), (2, [0, 1, 0, 0, 1, 1, 1, 0, 1]), (1, [1, 0, 0, 1, 1, 1, 0, 1]), (0, [1, 0, 1, 1, 1, 0, 1]), (1, [1])], ⟨187, [(175, .ptr 16 0)], [(16, .it)], 64, []⟩, fun d => r d.2.1.1 d.2.1.2⟩
def F_strings_IndexRune_l4 (r : (List UInt8) → (List UInt8) → Int → Int → Int → Option Int) : Lab Int := ⟨[(0, [0, 0, 0, 0, 1, 0, 1, 0, 0, 1, 0, 0, 0, 1, 1, 1, 1, 0, 1, 1, 1, 1, 1, 1, 0, 1]), (0, [1, 0, 0, 0, 1, 0, 1, 0, 0, 1, 0, 0, 0, 1, 1, 1, 1, 0, 1, 1, 1, 1, 1, 1, 0, 1]), (0, [1, 0, 0, 1, 0, 1, 0, 0, 1, 0, 0, 0, 1, 1, 1, 1, 0, 1, 1, 1, 1, 1, 1, 0, 1]), (2, [0, 1, 0, 1, 0, 0, 1, 0, 0, 0, 1, 1, 1, 1, 0, 1, 1, 1, 1, 1, 1, 0, 1]), (1, [1, 0, 1, 0, 0, 1, 0, 0, 0, 1, 1, 1, 1, 0, 1, 1, 1, 1, 1, 1, 0, 1]), (0, [1, 1, 0, 0, 1, 0, 0, 0, 1, 1, 1, 1, 0, 1, 1, 1, 1, 1, 1, 0, 1]), (3, [0, 1, 0, 0, 0, 1, 1, 1, 1, 0, 1, 1, 1, 1, 1, 1, 0, 1]), (1, [1, 0, 0, 0, 1, 1, 1, 1, 0, 1, 1, 1, 1, 1, 1, 0, 1]), (2, [0, 0, 1, 1, 1, 1, 0, 1, 1, 1, 1, 1, 1, 0, 1]), (1, [0, 1, 1, 1, 1, 0, 1, 1, 1, 1, 1, 1, 0, 1]), (0, [1, 1, 1, 1, 1, 0, 1, 1, 1, 1, 1, 1, 0, 1]), (3, [1, 1, 1, 1, 1, 1, 0, 1]), (1, [1])], ⟨187, [(0, .h .str), (7, .h .str), (8, .h (.int .i64)), (9, .h (.int .i64)), (12, .h (.int .i64))], [], 64, []⟩, fun d => r d.1.1 d.1.2.1 d.1.2.2.1 d.1.2.2.2.1 d.1.2.2.2.2.1⟩
def F_strings_IndexRune_l3 (r : (List UInt8) → (List UInt8) → Int → Int → Option Int) : Lab Int := ⟨[(0, [0, 0, 1, 0, 0, 1, 0, 0, 0, 1, 1, 1, 1, 0, 1, 1, 1, 1, 1, 1, 0, 1]), (0, [1, 0, 1, 0, 0, 1, 0, 0, 0, 1, 1, 1, 1, 0, 1, 1, 1, 1, 1, 1, 0, 1]), (0, [1, 1, 0, 0, 1, 0, 0, 0, 1, 1, 1, 1, 0, 1, 1, 1, 1, 1, 1, 0, 1]), (3, [0, 1, 0, 0, 0, 1, 1, 1, 1, 0, 1, 1, 1, 1, 1, 1, 0, 1]), (1, [1, 0, 0, 0, 1, 1, 1, 1, 0, 1, 1, 1, 1, 1, 1, 0, 1]), (2, [0, 0, 1, 1, 1, 1, 0, 1, 1, 1, 1, 1, 1, 0, 1]), (1, [0, 1, 1, 1, 1, 0, 1, 1, 1, 1, 1, 1, 0, 1]), (0, [1, 1, 1, 1, 1, 0, 1, 1, 1, 1, 1, 1, 0, 1]), (3, [1, 1, 1, 1, 1, 1, 0, 1]), (1, [1])], ⟨187, [(0, .h .str), (7, .h .str), (8, .h (.int .i64)), (9, .h (.int .i64))], [], 64, []⟩, fun d => r d.1.1 d.1.2.1 d.1.2.2.1 d.1.2.2.2.1⟩
def F_strings_IndexRune_l2 (r : (List UInt8) → (List UInt8) → Int → Int → Option Int) : Lab Int := ⟨[(0, [0, 0, 0, 0, 0, 1, 1, 1, 1, 0, 1, 1, 1, 1, 1, 1, 0, 1]), (0, [1, 0, 0, 0, 0, 1, 1, 1, 1, 0, 1, 1, 1, 1, 1, 1, 0, 1]), (0, [1, 0, 0, 0, 1, 1, 1, 1, 0, 1, 1, 1, 1, 1, 1, 0, 1]), (2, [0, 0, 1, 1, 1, 1, 0, 1, 1, 1, 1, 1, 1, 0, 1]), (1, [0, 1, 1, 1, 1, 0, 1, 1, 1, 1, 1, 1, 0, 1]), (0, [1, 1, 1, 1, 1, 0, 1, 1, 1, 1, 1, 1, 0, 1]), (3, [1, 1, 1, 1, 1, 1, 0, 1]), (1, [1])], ⟨187, [(0, .h .str), (7, .h .str), (8, .h (.int .i64)), (9, .h (.int .i64))], [], 64, []⟩, fun d => r d.1.1 d.1.2.1 d.1.2.2.1 d.1.2.2.2.1⟩
def F_strings_IndexRune_l0 (r : (List UInt8) → Int → Bool → Option Int) : Lab Int := ⟨[(0, [1, 0, 1]), (1, [1])], ⟨187, [(0, .h .str), (1, .h (.int .i32)), (160, .h .bool)], [], 64, []⟩, fun d => r d.1.1 d.1.2.1 d.1.2.2.1⟩
theorem F_strings_IndexRune_b1_ok (fu : Nat) (d' : bden F_strings_IndexRune_hp) (r1 : (List UInt8) → Nat → Option Int) (h1 : LabOk (F_strings_IndexRune_cx fu) (bput F_strings_IndexRune_hp d') F_strings_IndexRune_out (bodyOf Tryz.f85) (F_strings_IndexRune_l1 r1)) : LabOk (F_strings_IndexRune_cx fu) (bput F_strings_IndexRune_hp d') F_strings_IndexRune_out (bodyOf Tryz.f85) (F_strings_IndexRune_l1 (F_strings_IndexRune_b1 fu r1)) :=
  LabOk.of_run (labs := [F_strings_IndexRune_l1 (r1)]) (F_strings_IndexRune_cxok fu) (fun _ _ h => idsB_look h) (labs1 h1 labs0) (fun d => by kernel_rfl)
theorem F_strings_IndexRune_p1_ok (fu : Nat) (d' : bden F_strings_IndexRune_hp) : ∀ n, LabOk (F_strings_IndexRune_cx fu) (bput F_strings_IndexRune_hp d') F_strings_IndexRune_out (bodyOf Tryz.f85) (F_strings_IndexRune_l1 (F_strings_IndexRune_p1 fu n))
  | 0 => fun _ _ h => by cases h
  | n + 1 => F_strings_IndexRune_b1_ok fu d' (F_strings_IndexRune_p1 fu n) (F_strings_IndexRune_p1_ok fu d' n)
theorem F_strings_IndexRune_b4_ok (fu : Nat) (d' : bden F_strings_IndexRune_hp) (r2 : (List UInt8) → (List UInt8) → Int → Int → Option Int) (h2 : LabOk (F_strings_IndexRune_cx fu) (bput F_strings_IndexRune_hp d') F_strings_IndexRune_out (bodyOf Tryz.f85) (F_strings_IndexRune_l2 r2)) (r4 : (List UInt8) → (List UInt8) → Int → Int → Int → Option Int) (h4 : LabOk (F_strings_IndexRune_cx fu) (bput F_strings_IndexRune_hp d') F_strings_IndexRune_out (bodyOf Tryz.f85) (F_strings_IndexRune_l4 r4)) : LabOk (F_strings_IndexRune_cx fu) (bput F_strings_IndexRune_hp d') F_strings_IndexRune_out (bodyOf Tryz.f85) (F_strings_IndexRune_l4 (F_strings_IndexRune_b4 fu r2 r4)) :=
  LabOk.of_run (labs := [F_strings_IndexRune_l4 (r4)]) (F_strings_IndexRune_cxok fu) (fun _ _ h => idsB_look h) (labs1 h4 labs0) (fun d => by kernel_rfl)
theorem F_strings_IndexRune_p4_ok (fu : Nat) (d' : bden F_strings_IndexRune_hp) (r2 : (List UInt8) → (List UInt8) → Int → Int → Option Int) (h2 : LabOk (F_strings_IndexRune_cx fu) (bput F_strings_IndexRune_hp d') F_strings_IndexRune_out (bodyOf Tryz.f85) (F_strings_IndexRune_l2 r2)) : ∀ n, LabOk (F_strings_IndexRune_cx fu) (bput F_strings_IndexRune_hp d') F_strings_IndexRune_out (bodyOf Tryz.f85) (F_strings_IndexRune_l4 (F_strings_IndexRune_p4 fu r2 n))
  | 0 => fun _ _ h => by cases h
  | n + 1 => F_strings_IndexRune_b4_ok fu d' r2 h2 (F_strings_IndexRune_p4 fu r2 n) (F_strings_IndexRune_p4_ok fu d' r2 h2 n)
theorem F_strings_IndexRune_p3_ok (fu : Nat) (d' : bden F_strings_IndexRune_hp) (r2 : (List UInt8) → (List UInt8) → Int → Int → Option Int) (h2 : LabOk (F_strings_IndexRune_cx fu) (bput F_strings_IndexRune_hp d') F_strings_IndexRune_out (bodyOf Tryz.f85) (F_strings_IndexRune_l2 r2)) : LabOk (F_strings_IndexRune_cx fu) (bput F_strings_IndexRune_hp d') F_strings_IndexRune_out (bodyOf Tryz.f85) (F_strings_IndexRune_l3 (F_strings_IndexRune_p3 fu r2)) :=
  LabOk.of_run (labs := [F_strings_IndexRune_l4 (F_strings_IndexRune_p4 fu r2 fu)]) (F_strings_IndexRune_cxok fu) (fun _ _ h => idsB_look h) (labs1 (F_strings_IndexRune_p4_ok fu d' r2 h2 fu) labs0) (fun d => by kernel_rfl)
theorem F_strings_IndexRune_b2_ok (fu : Nat) (d' : bden F_strings_IndexRune_hp) (r2 : (List UInt8) → (List UInt8) → Int → Int → Option Int) (h2 : LabOk (F_strings_IndexRune_cx fu) (bput F_strings_IndexRune_hp d') F_strings_IndexRune_out (bodyOf Tryz.f85) (F_strings_IndexRune_l2 r2)) : LabOk (F_strings_IndexRune_cx fu) (bput F_strings_IndexRune_hp d') F_strings_IndexRune_out (bodyOf Tryz.f85) (F_strings_IndexRune_l2 (F_strings_IndexRune_b2 fu r2)) :=
  LabOk.of_run (labs := [F_strings_IndexRune_l3 (F_strings_IndexRune_p3 fu r2)]) (F_strings_IndexRune_cxok fu) (fun _ _ h => idsB_look h) (labs1 (F_strings_IndexRune_p3_ok fu d' r2 h2) labs0) (fun d => by kernel_rfl)
theorem F_strings_IndexRune_p2_ok (fu : Nat) (d' : bden F_strings_IndexRune_hp) : ∀ n, LabOk (F_strings_IndexRune_cx fu) (bput F_strings_IndexRune_hp d') F_strings_IndexRune_out (bodyOf Tryz.f85) (F_strings_IndexRune_l2 (F_strings_IndexRune_p2 fu n))
  | 0 => fun _ _ h => by cases h
  | n + 1 => F_strings_IndexRune_b2_ok fu d' (F_strings_IndexRune_p2 fu n) (F_strings_IndexRune_p2_ok fu d' n)
theorem F_strings_IndexRune_p0_ok (fu : Nat) (d' : bden F_strings_IndexRune_hp) : LabOk (F_strings_IndexRune_cx fu) (bput F_strings_IndexRune_hp d') F_strings_IndexRune_out (bodyOf Tryz.f85) (F_strings_IndexRune_l0 (F_strings_IndexRune_p0 fu)) :=
  LabOk.of_run (labs := [F_strings_IndexRune_l1 (F_strings_IndexRune_p1 fu fu), F_strings_IndexRune_l2 (F_strings_IndexRune_p2 fu fu)]) (F_strings_IndexRune_cxok fu) (fun _ _ h => idsB_look h) (labs1 (F_strings_IndexRune_p1_ok fu d' fu) (labs1 (F_strings_IndexRune_p2_ok fu d' fu) labs0)) (fun d => by kernel_rfl)
theorem F_strings_IndexRune_ok (fu : Nat) : (F_strings_IndexRune_ent (F_strings_IndexRune fu)).Sound Tryz.prog :=
  Ent.sound_fn (cx := F_strings_IndexRune_cx fu) (labs := [F_strings_IndexRune_l0 (F_strings_IndexRune_p0 fu)]) (F_strings_IndexRune_cxok fu) rfl rfl rfl rfl Tryz.call85 (by kernel_rfl) (fun d' => (labs1 (F_strings_IndexRune_p0_ok fu d') labs0)) (fun d d' => by kernel_rfl)
/- strings.ContainsRune -/
def F_strings_ContainsRune_out : RS Bool := .one (α := Bool) (.h .bool) [] (fun r => (r, ())) (fun y => y.1) (fun _ => rfl)
def F_strings_ContainsRune_hp : List (Nat × BPt) := []
def F_strings_ContainsRune_args : List Pt := [.h .str, .h (.int .i32)]
def F_strings_ContainsRune_ent (r : (List UInt8) → Int → Option Bool) : Ent := { key := .fn 92, args := F_strings_ContainsRune_args, hp := F_strings_ContainsRune_hp, R := Bool, F := fun d _ => r d.1 d.2.1, out := F_strings_ContainsRune_out }
noncomputable def F_strings_ContainsRune_cx (fu : Nat) : Cx := { P := Tryz.prog, tb := ⟨[F_strings_IndexRune_ent (F_strings_IndexRune fu)], etys, false⟩, fn := Tryz.f92, f := 92, ids := idsB F_strings_ContainsRune_hp, rd := none, tags := [] }
theorem F_strings_ContainsRune_cxok (fu : Nat) : (F_strings_ContainsRune_cx fu).Ok (bodyOf Tryz.f92) := ⟨(ents1 (F_strings_IndexRune_ok fu) ents0), Tryz_mixed, Tryz.func92, tags0⟩
theorem F_strings_ContainsRune_ok (fu : Nat) : (F_strings_ContainsRune_ent (F_strings_ContainsRune fu)).Sound Tryz.prog :=
  Ent.sound_fn (cx := F_strings_ContainsRune_cx fu) (labs := []) (F_strings_ContainsRune_cxok fu) rfl rfl rfl rfl Tryz.call92 (by kernel_rfl) (fun _ => labs0) (fun d d' => by kernel_rfl)
/- strings.trimRightUnicode -/
def F_strings_trimRightUnicode_out : RS ((List UInt8)) := .one (α := (List UInt8)) (.h .str) [] (fun r => (r, ())) (fun y => y.1) (fun _ => rfl)
def F_strings_trimRightUnicode_hp : List (Nat × BPt) := []
def F_strings_trimRightUnicode_args : List Pt := [.h .str, .h .str]
def F_strings_trimRightUnicode_ent (r : (List UInt8) → (List UInt8) → Option ((List UInt8))) : Ent := { key := .fn 75, args := F_strings_trimRightUnicode_args, hp := F_strings_trimRightUnicode_hp, R := ((List UInt8)), F := fun d _ => r d.1 d.2.1, out := F_strings_trimRightUnicode_out }
noncomputable def F_strings_trimRightUnicode_cx (fu : Nat) : Cx := { P := Tryz.prog, tb := ⟨[F_unicode_utf8_DecodeLastRuneInString_ent (F_unicode_utf8_DecodeLastRuneInString fu), F_strings_ContainsRune_ent (F_strings_ContainsRune fu)], etys, false⟩, fn := Tryz.f75, f := 75, ids := idsB F_strings_trimRightUnicode_hp, rd := none, tags := [] }
theorem F_strings_trimRightUnicode_cxok (fu : Nat) : (F_strings_trimRightUnicode_cx fu).Ok (bodyOf Tryz.f75) := ⟨(ents1 (F_unicode_utf8_DecodeLastRuneInString_ok fu) (ents1 (F_strings_ContainsRune_ok fu) ents0)), Tryz_mixed, Tryz.func75, tags0⟩
def F_strings_trimRightUnicode_l0 (r : (List UInt8) → (List UInt8) → Option ((List UInt8))) : Lab ((List UInt8)) := ⟨[(0, [0, 0, 0, 0, 0, 1]), (0, [1, 0, 0, 0, 0, 1]), (0, [1, 0, 0, 0, 1]), (2, [0, 0, 1]), (1, [0, 1]), (0, [1, 1])], ⟨34, [(0, .h .str), (1, .h .str)], [], 64, []⟩, fun d => r d.1.1 d.1.2.1⟩
theorem F_strings_trimRightUnicode_b0_ok (fu : Nat) (d' : bden F_strings_trimRightUnicode_hp) (r0 : (List UInt8) → (List UInt8) → Option ((List UInt8))) (h0 : LabOk (F_strings_trimRightUnicode_cx fu) (bput F_strings_trimRightUnicode_hp d') F_strings_trimRightUnicode_out (bodyOf Tryz.f75) (F_strings_trimRightUnicode_l0 r0)) : LabOk (F_strings_trimRightUnicode_cx fu) (bput F_strings_trimRightUnicode_hp d') F_strings_trimRightUnicode_out (bodyOf Tryz.f75) (F_strings_trimRightUnicode_l0 (F_strings_trimRightUnicode_b0 fu r0)) :=
  LabOk.of_run (labs := [F_strings_trimRightUnicode_l0 (r0)]) (F_strings_trimRightUnicode_cxok fu) (fun _ _ h => idsB_look h) (labs1 h0 labs0) (fun d => by kernel_rfl)
theorem F_strings_trimRightUnicode_p0_ok (fu : Nat) (d' : bden F_strings_trimRightUnicode_hp) : ∀ n, LabOk (F_strings_trimRightUnicode_cx fu) (bput F_strings_trimRightUnicode_hp d') F_strings_trimRightUnicode_out (bodyOf Tryz.f75) (F_strings_trimRightUnicode_l0 (F_strings_trimRightUnicode_p0 fu n))
  | 0 => fun _ _ h => by cases h
  | n + 1 => F_strings_trimRightUnicode_b0_ok fu d' (F_strings_trimRightUnicode_p0 fu n) (F_strings_trimRightUnicode_p0_ok fu d' n)
theorem F_strings_trimRightUnicode_ok (fu : Nat) : (F_strings_trimRightUnicode_ent (F_strings_trimRightUnicode fu)).Sound Tryz.prog :=
  Ent.sound_fn (cx := F_strings_trimRightUnicode_cx fu) (labs := [F_strings_trimRightUnicode_l0 (F_strings_trimRightUnicode_p0 fu fu)]) (F_strings_trimRightUnicode_cxok fu) rfl rfl rfl rfl Tryz.call75 (by kernel_rfl) (fun d' => (labs1 (F_strings_trimRightUnicode_p0_ok fu d' fu) labs0)) (fun d d' => by kernel_rfl)
/- strings.TrimRight -/
def F_strings_TrimRight_out : RS ((List UInt8)) := .one (α := (List UInt8)) (.h .str) [] (fun r => (r, ())) (fun y => y.1) (fun _ => rfl)
def F_strings_TrimRight_hp : List (Nat × BPt) := []
def F_strings_TrimRight_args : List Pt := [.h .str, .h .str]
def F_strings_TrimRight_ent (r : (List UInt8) → (List UInt8) → Option ((List UInt8))) : Ent := { key := .fn 67, args := F_strings_TrimRight_args, hp := F_strings_TrimRight_hp, R := ((List UInt8)), F := fun d _ => r d.1 d.2.1, out := F_strings_TrimRight_out }
noncomputable def F_strings_TrimRight_cx (fu : Nat) : Cx := { P := Tryz.prog, tb := ⟨[F_strings_trimRightByte_ent (F_strings_trimRightByte fu), F_strings_makeASCIISet_ent (F_strings_makeASCIISet fu), F_strings_trimRightASCII_ent (F_strings_trimRightASCII fu), F_strings_trimRightUnicode_ent (F_strings_trimRightUnicode fu)], etys, false⟩, fn := Tryz.f67, f := 67, ids := idsB F_strings_TrimRight_hp, rd := none, tags := [] }
theorem F_strings_TrimRight_cxok (fu : Nat) : (F_strings_TrimRight_cx fu).Ok (bodyOf Tryz.f67) := ⟨(ents1 (F_strings_trimRightByte_ok fu) (ents1 (F_strings_makeASCIISet_ok fu) (ents1 (F_strings_trimRightASCII_ok fu) (ents1 (F_strings_trimRightUnicode_ok fu) ents0)))), Tryz_mixed, Tryz.func67, tags0⟩
def F_strings_TrimRight_l3 (r : (List UInt8) → (List UInt8) → Option ((List UInt8))) : Lab ((List UInt8)) := ⟨[(0, [0, 0, 1, 1, 1]), (0, [1, 0, 1, 1, 1]), (0, [1, 1, 1, 1])], ⟨37, [(0, .h .str), (1, .h .str)], [], 64, []⟩, fun d => r d.1.1 d.1.2.1⟩
def F_strings_TrimRight_l2 (r : (List UInt8) → (List UInt8) → Bool → Option ((List UInt8))) : Lab ((List UInt8)) := ⟨[(0, [1, 0, 1, 1]), (0, [1, 1, 1])], ⟨37, [(0, .h .str), (1, .h .str), (21, .h .bool)], [], 64, []⟩, fun d => r d.1.1 d.1.2.1 d.1.2.2.1⟩
def F_strings_TrimRight_l1 (r : (List UInt8) → (List UInt8) → Option ((List UInt8))) : Lab ((List UInt8)) := ⟨[(0, [0, 0, 1, 1]), (0, [1, 0, 1, 1]), (0, [1, 1, 1])], ⟨37, [(0, .h .str), (1, .h .str)], [], 64, []⟩, fun d => r d.1.1 d.1.2.1⟩
def F_strings_TrimRight_l0 (r : (List UInt8) → (List UInt8) → Bool → Option ((List UInt8))) : Lab ((List UInt8)) := ⟨[(0, [1, 0, 1]), (0, [1, 1])], ⟨37, [(0, .h .str), (1, .h .str), (12, .h .bool)], [], 64, []⟩, fun d => r d.1.1 d.1.2.1 d.1.2.2.1⟩
theorem F_strings_TrimRight_p3_ok (fu : Nat) (d' : bden F_strings_TrimRight_hp) : LabOk (F_strings_TrimRight_cx fu) (bput F_strings_TrimRight_hp d') F_strings_TrimRight_out (bodyOf Tryz.f67) (F_strings_TrimRight_l3 (F_strings_TrimRight_p3 fu)) :=
  LabOk.of_run (labs := []) (F_strings_TrimRight_cxok fu) (fun _ _ h => idsB_look h) labs0 (fun d => by kernel_rfl)
theorem F_strings_TrimRight_p2_ok (fu : Nat) (d' : bden F_strings_TrimRight_hp) : LabOk (F_strings_TrimRight_cx fu) (bput F_strings_TrimRight_hp d') F_strings_TrimRight_out (bodyOf Tryz.f67) (F_strings_TrimRight_l2 (F_strings_TrimRight_p2 fu)) :=
  LabOk.of_run (labs := [F_strings_TrimRight_l3 (F_strings_TrimRight_p3 fu)]) (F_strings_TrimRight_cxok fu) (fun _ _ h => idsB_look h) (labs1 (F_strings_TrimRight_p3_ok fu d') labs0) (fun d => by kernel_rfl)
theorem F_strings_TrimRight_p1_ok (fu : Nat) (d' : bden F_strings_TrimRight_hp) : LabOk (F_strings_TrimRight_cx fu) (bput F_strings_TrimRight_hp d') F_strings_TrimRight_out (bodyOf Tryz.f67) (F_strings_TrimRight_l1 (F_strings_TrimRight_p1 fu)) :=
  LabOk.of_run (labs := [F_strings_TrimRight_l2 (F_strings_TrimRight_p2 fu)]) (F_strings_TrimRight_cxok fu) (fun _ _ h => idsB_look h) (labs1 (F_strings_TrimRight_p2_ok fu d') labs0) (fun d => by kernel_rfl)
theorem F_strings_TrimRight_p0_ok (fu : Nat) (d' : bden F_strings_TrimRight_hp) : LabOk (F_strings_TrimRight_cx fu) (bput F_strings_TrimRight_hp d') F_strings_TrimRight_out (bodyOf Tryz.f67) (F_strings_TrimRight_l0 (F_strings_TrimRight_p0 fu)) :=
  LabOk.of_run (labs := [F_strings_TrimRight_l1 (F_strings_TrimRight_p1 fu)]) (F_strings_TrimRight_cxok fu) (fun _ _ h => idsB_look h) (labs1 (F_strings_TrimRight_p1_ok fu d') labs0) (fun d => by kernel_rfl)
theorem F_strings_TrimRight_ok (fu : Nat) : (F_strings_TrimRight_ent (F_strings_TrimRight fu)).Sound Tryz.prog :=
  Ent.sound_fn (cx := F_strings_TrimRight_cx fu) (labs := [F_strings_TrimRight_l0 (F_strings_TrimRight_p0 fu)]) (F_strings_TrimRight_cxok fu) rfl rfl rfl rfl Tryz.call67 (by kernel_rfl) (fun d' => (labs1 (F_strings_TrimRight_p0_ok fu d') labs0)) (fun d d' => by kernel_rfl)
/- posthouse/fold.name$1 -/
def F_fold_name_1_out : RS Bool := .one (α := Bool) (.h .bool) [] (fun r => (r, ())) (fun y => y.1) (fun _ => rfl)
def F_fold_name_1_hp : List (Nat × BPt) := []
def F_fold_name_1_args : List Pt := [.h .byte]
def F_fold_name_1_ent (r : UInt8 → Option Bool) : Ent := { key := .fn 98, args := F_fold_name_1_args, hp := F_fold_name_1_hp, R := Bool, F := fun d _ => r d.1, out := F_fold_name_1_out }
noncomputable def F_fold_name_1_cx : Cx := { P := Tryz.prog, tb := ⟨[], etys, false⟩, fn := Tryz.f98, f := 98, ids := idsB F_fold_name_1_hp, rd := none, tags := [] }
theorem F_fold_name_1_cxok : (F_fold_name_1_cx).Ok (bodyOf Tryz.f98) := ⟨ents0, Tryz_mixed, Tryz.func98, tags0⟩
theorem F_fold_name_1_ok : (F_fold_name_1_ent (F_fold_name_1)).Sound Tryz.prog :=
  Ent.sound_fn (cx := F_fold_name_1_cx) (labs := []) (F_fold_name_1_cxok) rfl rfl rfl rfl Tryz.call98 (by kernel_rfl) (fun _ => labs0) (fun d d' => by kernel_rfl)
/- posthouse/basic.All -/
def F_basic_All_out : RS Bool := .one (α := Bool) (.h .bool) [] (fun r => (r, ())) (fun y => y.1) (fun _ => rfl)
def F_basic_All_hp : List (Nat × BPt) := []
def F_basic_All_args : List Pt := [.h .str, .fn 98 []]
def F_basic_All_ent (r : (List UInt8) → Option Bool) : Ent := { key := .fn 97, args := F_basic_All_args, hp := F_basic_All_hp, R := Bool, F := fun d _ => r d.1, out := F_basic_All_out }
noncomputable def F_basic_All_cx (fu : Nat) : Cx := { P := Tryz.prog, tb := ⟨[F_fold_name_1_ent F_fold_name_1], etys, false⟩, fn := Tryz.f97, f := 97, ids := idsB F_basic_All_hp, rd := none, tags := [] }
theorem F_basic_All_cxok (fu : Nat) : (F_basic_All_cx fu).Ok (bodyOf Tryz.f97) := ⟨(ents1 F_fold_name_1_ok ents0), Tryz_mixed, Tryz.func97, tags0⟩
def F_basic_All_l0 (r : (List UInt8) → Int → Int → Option Bool) : Lab Bool := ⟨[(0, [0, 0, 0, 1, 0, 1]), (0, [1, 0, 0, 1, 0, 1]), (2, [0, 1, 0, 1]), (1, [1, 0, 1]), (0, [1, 1])], ⟨18, [(0, .h .str), (1, .fn 98 []), (7, .h (.int .i64)), (8, .h (.int .i64))], [], 64, []⟩, fun d => r d.1.1 d.1.2.2.1 d.1.2.2.2.1⟩
theorem F_basic_All_b0_ok (fu : Nat) (d' : bden F_basic_All_hp) (r0 : (List UInt8) → Int → Int → Option Bool) (h0 : LabOk (F_basic_All_cx fu) (bput F_basic_All_hp d') F_basic_All_out (bodyOf Tryz.f97) (F_basic_All_l0 r0)) : LabOk (F_basic_All_cx fu) (bput F_basic_All_hp d') F_basic_All_out (bodyOf Tryz.f97) (F_basic_All_l0 (F_basic_All_b0 fu r0)) :=
  LabOk.of_run (labs := [F_basic_All_l0 (r0)]) (F_basic_All_cxok fu) (fun _ _ h => idsB_look h) (labs1 h0 labs0) (fun d => by kernel_rfl)
theorem F_basic_All_p0_ok (fu : Nat) (d' : bden F_basic_All_hp) : ∀ n, LabOk (F_basic_All_cx fu) (bput F_basic_All_hp d') F_basic_All_out (bodyOf Tryz.f97) (F_basic_All_l0 (F_basic_All_p0 fu n))
  | 0 => fun _ _ h => by cases h
  | n + 1 => F_basic_All_b0_ok fu d' (F_basic_All_p0 fu n) (F_basic_All_p0_ok fu d' n)
theorem F_basic_All_ok (fu : Nat) : (F_basic_All_ent (F_basic_All fu)).Sound Tryz.prog :=
  Ent.sound_fn (cx := F_basic_All_cx fu) (labs := [F_basic_All_l0 (F_basic_All_p0 fu fu)]) (F_basic_All_cxok fu) rfl rfl rfl rfl Tryz.call97 (by kernel_rfl) (fun d' => (labs1 (F_basic_All_p0_ok fu d' fu) labs0)) (fun d d' => by kernel_rfl)
/- posthouse/fold.name -/
def F_fold_name_out : RS Bool := .one (α := Bool) (.h .bool) [] (fun r => (r, ())) (fun y => y.1) (fun _ => rfl)
def F_fold_name_hp : List (Nat × BPt) := []
def F_fold_name_args : List Pt := [.h .str]
def F_fold_name_ent (r : (List UInt8) → Option Bool) : Ent := { key := .fn 79, args := F_fold_name_args, hp := F_fold_name_hp, R := Bool, F := fun d _ => r d.1, out := F_fold_name_out }
noncomputable def F_fold_name_cx (fu : Nat) : Cx := { P := Tryz.prog, tb := ⟨[F_basic_All_ent (F_basic_All fu)], etys, false⟩, fn := Tryz.f79, f := 79, ids := idsB F_fold_name_hp, rd := none, tags := [] }
theorem F_fold_name_cxok (fu : Nat) : (F_fold_name_cx fu).Ok (bodyOf Tryz.f79) := ⟨(ents1 (F_basic_All_ok fu) ents0), Tryz_mixed, Tryz.func79, tags0⟩
theorem F_fold_name_ok (fu : Nat) : (F_fold_name_ent (F_fold_name fu)).Sound Tryz.prog :=
  Ent.sound_fn (cx := F_fold_name_cx fu) (labs := []) (F_fold_name_cxok fu) rfl rfl rfl rfl Tryz.call79 (by kernel_rfl) (fun _ => labs0) (fun d d' => by kernel_rfl)
end Go.Sym
/- The Go functions compute the plain functions: printed by a program; each is reckoned by the kernel. -/
namespace Go.Sym
open Go.Proofs
set_option linter.unusedVariables false
set_option maxRecDepth 100000
/- strings.shouldUseASCIISet -/
def F_strings_shouldUseASCIISet_out : RS Bool := .one (α := Bool) (.h .bool) [] (fun r => (r, ())) (fun y => y.1) (fun _ => rfl)
def F_strings_shouldUseASCIISet_hp : List (Nat × BPt) := []
def F_strings_shouldUseASCIISet_args : List Pt := [.h (.int .i64)]
def F_strings_shouldUseASCIISet_ent (r : Int → Option Bool) : Ent := { key := .fn 86, args := F_strings_shouldUseASCIISet_args, hp := F_strings_shouldUseASCIISet_hp, R := Bool, F := fun d _ => r d.1, out := F_strings_shouldUseASCIISet_out }
noncomputable def F_strings_shouldUseASCIISet_cx : Cx := { P := Tryz.prog, tb := ⟨[], etys, false⟩, fn := Tryz.f86, f := 86, ids := idsB F_strings_shouldUseASCIISet_hp, rd := none, tags := [] }
theorem F_strings_shouldUseASCIISet_cxok : (F_strings_shouldUseASCIISet_cx).Ok (bodyOf Tryz.f86) := ⟨ents0, Tryz_mixed, Tryz.func86, tags0⟩
theorem F_strings_shouldUseASCIISet_ok : (F_strings_shouldUseASCIISet_ent (F_strings_shouldUseASCIISet)).Sound Tryz.prog :=
  Ent.sound_fn (cx := F_strings_shouldUseASCIISet_cx) (labs := []) (F_strings_shouldUseASCIISet_cxok) rfl rfl rfl rfl Tryz.call86 (by kernel_rfl) (fun _ => labs0) (fun d d' => by kernel_rfl)
/- strings.IndexAny -/
def F_strings_IndexAny_out : RS Int := .one (α := Int) (.h (.int .i64)) [] (fun r => (r, ())) (fun y => y.1) (fun _ => rfl)
def F_strings_IndexAny_hp : List (Nat × BPt) := []
def F_strings_IndexAny_args : List Pt := [.h .str, .h .str]
def F_strings_IndexAny_ent (r : (List UInt8) → (List UInt8) → Option Int) : Ent := { key := .fn 63, args := F_strings_IndexAny_args, hp := F_strings_IndexAny_hp, R := Int, F := fun d _ => r d.1 d.2.1, out := F_strings_IndexAny_out }
noncomputable def F_strings_IndexAny_cx (fu : Nat) : Cx := { P := Tryz.prog, tb := ⟨[F_strings_shouldUseASCIISet_ent F_strings_shouldUseASCIISet, F_strings_makeASCIISet_ent (F_strings_makeASCIISet fu), F_strings_IndexRune_ent (F_strings_IndexRune fu), F_strings_asciiSet_contains_ent F_strings_asciiSet_contains], etys, false⟩, fn := Tryz.f63, f := 63, ids := idsB F_strings_IndexAny_hp, rd := none, tags := [] }
theorem F_strings_IndexAny_cxok (fu : Nat) : (F_strings_IndexAny_cx fu).Ok (bodyOf Tryz.f63) := ⟨(ents1 F_strings_shouldUseASCIISet_ok (ents1 (F_strings_makeASCIISet_ok fu) (ents1 (F_strings_IndexRune_ok fu) (ents1 F_strings_asciiSet_contains_ok ents0)))), Tryz_mixed, Tryz.func63, tags0⟩
def F_strings_IndexAny_l0 (r : (List UInt8) → Int → Option Int) : Lab Int := ⟨[(0, [0, 1, 1, 0, 1, 0, 1, 1]), (0, [1, 1, 1, 0, 1, 0, 1, 1]), (0, [1, 1, 1])], ⟨55, [(0, .h .str), (5, .h (.int .i32))], [], 64, []⟩, fun d => r d.1.1 d.1.2.1⟩
def F_strings_IndexAny_l1 (r : (List UInt8) → Int → (List Bool) → Option Int) : Lab Int := ⟨[(0, [0, 0, 0, 0, 1, 0, 0, 1, 1, 0, 1, 0, 1, 1, 1]), (0, [1, 0, 0, 0, 1, 0, 0, 1, 1, 0, 1, 0, 1, 1, 1]), (0, [1, 0, 0, 1, 0, 0, 1, 1, 0, 1, 0, 1, 1, 1]), (2, [0, 1, 0, 0, 1, 1, 0, 1, 0, 1, 1, 1]), (1, [1, 0, 0, 1, 1, 0, 1, 0, 1, 1, 1]), (0, [1, 0, 1, 1, 0, 1, 0, 1, 1, 1]), (0, [1, 1, 1, 1])], ⟨55, [(0, .h .str), (6, .el 16 1), (8, .h (.int .i64))], [(16, .row .bool 103)], 64, []⟩, fun d => r d.1.1 d.1.2.2.1 d.2.1⟩
def F_strings_IndexAny_l3 (r : (List UInt8) → (List UInt8) → Nat → Option Int) : Lab Int := ⟨[(0, [0, 0, 0, 1, 0, 1, 1, 1, 1]), (0, [1, 0, 0, 1, 0, 1, 1, 1, 1]), (2, [0, 1, 0, 1, 1, 1, 1]), (1, [1, 0, 1, 1, 1, 1]), (0, [1, 1, 1, 1, 1])], ⟨55, [(1, .h .str), (45, .ptr 16 0)], [(16, .it)], 64, []⟩, fun d => r d.1.1 d.2.1.1 d.2.1.2⟩
def F_strings_IndexAny_l2 (r : (List UInt8) → (List UInt8) → Option Int) : Lab Int := ⟨[(0, [0, 0, 1, 1, 1, 1]), (0, [1, 0, 1, 1, 1, 1]), (0, [1, 1, 1, 1, 1])], ⟨55, [(0, .h .str), (1, .h .str)], [], 64, []⟩, fun d => r d.1.1 d.1.2.1⟩
theorem F_strings_IndexAny_p0_ok (fu : Nat) (d' : bden F_strings_IndexAny_hp) : LabOk (F_strings_IndexAny_cx fu) (bput F_strings_IndexAny_hp d') F_strings_IndexAny_out (bodyOf Tryz.f63) (F_strings_IndexAny_l0 (F_strings_IndexAny_p0 fu)) :=
  LabOk.of_run (labs := []) (F_strings_IndexAny_cxok fu) (fun _ _ h => idsB_look h) labs0 (fun d => by kernel_rfl)
theorem F_strings_IndexAny_b1_ok (fu : Nat) (d' : bden F_strings_IndexAny_hp) (r1 : (List UInt8) → Int → (List Bool) → Option Int) (h1 : LabOk (F_strings_IndexAny_cx fu) (bput F_strings_IndexAny_hp d') F_strings_IndexAny_out (bodyOf Tryz.f63) (F_strings_IndexAny_l1 r1)) : LabOk (F_strings_IndexAny_cx fu) (bput F_strings_IndexAny_hp d') F_strings_IndexAny_out (bodyOf Tryz.f63) (F_strings_IndexAny_l1 (F_strings_IndexAny_b1 fu r1)) :=
  LabOk.of_run (labs := [F_strings_IndexAny_l1 (r1)]) (F_strings_IndexAny_cxok fu) (fun _ _ h => idsB_look h) (labs1 h1 labs0) (fun d => by kernel_rfl)
theorem F_strings_IndexAny_p1_ok (fu : Nat) (d' : bden F_strings_IndexAny_hp) : ∀ n, LabOk (F_strings_IndexAny_cx fu) (bput F_strings_IndexAny_hp d') F_strings_IndexAny_out (bodyOf Tryz.f63) (F_strings_IndexAny_l1 (F_strings_IndexAny_p1 fu n))
  | 0 => fun _ _ h => by cases h
  | n + 1 => F_strings_IndexAny_b1_ok fu d' (F_strings_IndexAny_p1 fu n) (F_strings_IndexAny_p1_ok fu d' n)
theorem F_strings_IndexAny_b3_ok (fu : Nat) (d' : bden F_strings_IndexAny_hp) (r3 : (List UInt8) → (List UInt8) → Nat → Option Int) (h3 : LabOk (F_strings_IndexAny_cx fu) (bput F_strings_IndexAny_hp d') F_strings_IndexAny_out (bodyOf Tryz.f63) (F_strings_IndexAny_l3 r3)) : LabOk (F_strings_IndexAny_cx fu) (bput F_strings_IndexAny_hp d') F_strings_IndexAny_out (bodyOf Tryz.f63) (F_strings_IndexAny_l3 (F_strings_IndexAny_b3 fu r3)) :=
  LabOk.of_run (labs := [F_strings_IndexAny_l3 (r3)]) (F_strings_IndexAny_cxok fu) (fun _ _ h => idsB_look h) (labs1 h3 labs0) (fun d => by kernel_rfl)
theorem F_strings_IndexAny_p3_ok (fu : Nat) (d' : bden F_strings_IndexAny_hp) : ∀ n, LabOk (F_strings_IndexAny_cx fu) (bput F_strings_IndexAny_hp d') F_strings_IndexAny_out (bodyOf Tryz.f63) (F_strings_IndexAny_l3 (F_strings_IndexAny_p3 fu n))
  | 0 => fun _ _ h => by cases h
  | n + 1 => F_strings_IndexAny_b3_ok fu d' (F_strings_IndexAny_p3 fu n) (F_strings_IndexAny_p3_ok fu d' n)
theorem F_strings_IndexAny_p2_ok (fu : Nat) (d' : bden F_strings_IndexAny_hp) : LabOk (F_strings_IndexAny_cx fu) (bput F_strings_IndexAny_hp d') F_strings_IndexAny_out (bodyOf Tryz.f63) (F_strings_IndexAny_l2 (F_strings_IndexAny_p2 fu)) :=
  LabOk.of_run (labs := [F_strings_IndexAny_l3 (F_strings_IndexAny_p3 fu fu)]) (F_strings_IndexAny_cxok fu) (fun _ _ h => idsB_look h) (labs1 (F_strings_IndexAny_p3_ok fu d' fu) labs0) (fun d => by kernel_rfl)
theorem F_strings_IndexAny_ok (fu : Nat) : (F_strings_IndexAny_ent (F_strings_IndexAny fu)).Sound Tryz.prog :=
  Ent.sound_fn (cx := F_strings_IndexAny_cx fu) (labs := [F_strings_IndexAny_l0 (F_strings_IndexAny_p0 fu), F_strings_IndexAny_l1 (F_strings_IndexAny_p1 fu fu), F_strings_IndexAny_l2 (F_strings_IndexAny_p2 fu)]) (F_strings_IndexAny_cxok fu) rfl rfl rfl rfl Tryz.call63 (by kernel_rfl) (fun d' => (labs1 (F_strings_IndexAny_p0_ok fu d') (labs1 (F_strings_IndexAny_p1_ok fu d' fu) (labs1 (F_strings_IndexAny_p2_ok fu d') labs0)))) (fun d d' => by kernel_rfl)
/- strings.ContainsAny -/
def F_strings_ContainsAny_out : RS Bool := .one (α := Bool) (.h .bool) [] (fun r => (r, ())) (fun y => y.1) (fun _ => rfl)
def F_strings_ContainsAny_hp : List (Nat × BPt) := []
def F_strings_ContainsAny_args : List Pt := [.h .str, .h .str]
def F_strings_ContainsAny_ent (r : (List UInt8) → (List UInt8) → Option Bool) : Ent := { key := .fn 41, args := F_strings_ContainsAny_args, hp := F_strings_ContainsAny_hp, R := Bool, F := fun d _ => r d.1 d.2.1, out := F_strings_ContainsAny_out }
noncomputable def F_strings_ContainsAny_cx (fu : Nat) : Cx := { P := Tryz.prog, tb := ⟨[F_strings_IndexAny_ent (F_strings_IndexAny fu)], etys, false⟩, fn := Tryz.f41, f := 41, ids := idsB F_strings_ContainsAny_hp, rd := none, tags := [] }
theorem F_strings_ContainsAny_cxok (fu : Nat) : (F_strings_ContainsAny_cx fu).Ok (bodyOf Tryz.f41) := ⟨(ents1 (F_strings_IndexAny_ok fu) ents0), Tryz_mixed, Tryz.func41, tags0⟩
theorem F_strings_ContainsAny_ok (fu : Nat) : (F_strings_ContainsAny_ent (F_strings_ContainsAny fu)).Sound Tryz.prog :=
  Ent.sound_fn (cx := F_strings_ContainsAny_cx fu) (labs := []) (F_strings_ContainsAny_cxok fu) rfl rfl rfl rfl Tryz.call41 (by kernel_rfl) (fun _ => labs0) (fun d d' => by kernel_rfl)
/- posthouse/fold.ends -/
def F_fold_ends_out : RS Bool := .one (α := Bool) (.h .bool) [] (fun r => (r, ())) (fun y => y.1) (fun _ => rfl)
def F_fold_ends_hp : List (Nat × BPt) := []
def F_fold_ends_args : List Pt := [.h .str]
def F_fold_ends_ent (r : (List UInt8) → Option Bool) : Ent := { key := .fn 99, args := F_fold_ends_args, hp := F_fold_ends_hp, R := Bool, F := fun d _ => r d.1, out := F_fold_ends_out }
noncomputable def F_fold_ends_cx (fu : Nat) : Cx := { P := Tryz.prog, tb := ⟨[F_strings_ContainsAny_ent (F_strings_ContainsAny fu)], etys, false⟩, fn := Tryz.f99, f := 99, ids := idsB F_fold_ends_hp, rd := none, tags := [] }
theorem F_fold_ends_cxok (fu : Nat) : (F_fold_ends_cx fu).Ok (bodyOf Tryz.f99) := ⟨(ents1 (F_strings_ContainsAny_ok fu) ents0), Tryz_mixed, Tryz.func99, tags0⟩
theorem F_fold_ends_ok (fu : Nat) : (F_fold_ends_ent (F_fold_ends fu)).Sound Tryz.prog :=
  Ent.sound_fn (cx := F_fold_ends_cx fu) (labs := []) (F_fold_ends_cxok fu) rfl rfl rfl rfl Tryz.call99 (by kernel_rfl) (fun _ => labs0) (fun d d' => by kernel_rfl)
/- posthouse/fold.value -/
def F_fold_value_out : RS Bool := .one (α := Bool) (.h .bool) [] (fun r => (r, ())) (fun y => y.1) (fun _ => rfl)
def F_fold_value_hp : List (Nat × BPt) := []
def F_fold_value_args : List Pt := [.h .str]
def F_fold_value_ent (r : (List UInt8) → Option Bool) : Ent := { key := .fn 80, args := F_fold_value_args, hp := F_fold_value_hp, R := Bool, F := fun d _ => r d.1, out := F_fold_value_out }
noncomputable def F_fold_value_cx (fu : Nat) : Cx := { P := Tryz.prog, tb := ⟨[F_fold_ends_ent (F_fold_ends fu), F_basic_Blank_ent F_basic_Blank], etys, false⟩, fn := Tryz.f80, f := 80, ids := idsB F_fold_value_hp, rd := none, tags := [] }
theorem F_fold_value_cxok (fu : Nat) : (F_fold_value_cx fu).Ok (bodyOf Tryz.f80) := ⟨(ents1 (F_fold_ends_ok fu) (ents1 F_basic_Blank_ok ents0)), Tryz_mixed, Tryz.func80, tags0⟩
theorem F_fold_value_ok (fu : Nat) : (F_fold_value_ent (F_fold_value fu)).Sound Tryz.prog :=
  Ent.sound_fn (cx := F_fold_value_cx fu) (labs := []) (F_fold_value_cxok fu) rfl rfl rfl rfl Tryz.call80 (by kernel_rfl) (fun _ => labs0) (fun d d' => by kernel_rfl)
/- posthouse/fold.point -/
def F_fold_point_out : RS Int := .one (α := Int) (.h (.int .i64)) [] (fun r => (r, ())) (fun y => y.1) (fun _ => rfl)
def F_fold_point_hp : List (Nat × BPt) := []
def F_fold_point_args : List Pt := [.h .str, .h (.int .i64)]
def F_fold_point_ent (r : (List UInt8) → Int → Option Int) : Ent := { key := .fn 81, args := F_fold_point_args, hp := F_fold_point_hp, R := Int, F := fun d _ => r d.1 d.2.1, out := F_fold_point_out }
noncomputable def F_fold_point_cx (fu : Nat) : Cx := { P := Tryz.prog, tb := ⟨[F_basic_Blank_ent F_basic_Blank], etys, false⟩, fn := Tryz.f81, f := 81, ids := idsB F_fold_point_hp, rd := none, tags := [] }
theorem F_fold_point_cxok (fu : Nat) : (F_fold_point_cx fu).Ok (bodyOf Tryz.f81) := ⟨(ents1 F_basic_Blank_ok ents0), Tryz_mixed, Tryz.func81, tags0⟩
def F_fold_point_l1 (r : (List UInt8) → Int → Int → Bool → Option Int) : Lab Int := ⟨[(0, [1, 0, 0, 0, 1, 0, 0, 1, 0, 1, 1]), (0, [1, 0, 0, 1, 0, 0, 1, 0, 1, 1]), (1, [0, 1, 0, 0, 1, 0, 1, 1]), (0, [1, 1, 0, 0, 1, 0, 1, 1]), (2, [0, 1, 0, 1, 1]), (1, [1, 0, 1, 1]), (0, [1, 1, 1])], ⟨35, [(0, .h .str), (5, .h (.int .i64)), (6, .h (.int .i64)), (26, .h .bool)], [], 64, []⟩, fun d => r d.1.1 d.1.2.1 d.1.2.2.1 d.1.2.2.2.1⟩
def F_fold_point_l0 (r : (List UInt8) → Int → Int → Option Int) : Lab Int := ⟨[(0, [0, 0, 0, 0, 1, 0, 1, 1]), (0, [1, 0, 0, 0, 1, 0, 1, 1]), (0, [1, 0, 0, 1, 0, 1, 1]), (2, [0, 1, 0, 1, 1]), (1, [1, 0, 1, 1]), (0, [1, 1, 1])], ⟨35, [(0, .h .str), (5, .h (.int .i64)), (6, .h (.int .i64))], [], 64, []⟩, fun d => r d.1.1 d.1.2.1 d.1.2.2.1⟩
theorem F_fold_point_p1_ok (fu : Nat) (d' : bden F_fold_point_hp) (r0 : (List UInt8) → Int → Int → Option Int) (h0 : LabOk (F_fold_point_cx fu) (bput F_fold_point_hp d') F_fold_point_out (bodyOf Tryz.f81) (F_fold_point_l0 r0)) : LabOk (F_fold_point_cx fu) (bput F_fold_point_hp d') F_fold_point_out (bodyOf Tryz.f81) (F_fold_point_l1 (F_fold_point_p1 fu r0)) :=
  LabOk.of_run (labs := [F_fold_point_l0 (r0)]) (F_fold_point_cxok fu) (fun _ _ h => idsB_look h) (labs1 h0 labs0) (fun d => by kernel_rfl)
theorem F_fold_point_b0_ok (fu : Nat) (d' : bden F_fold_point_hp) (r0 : (List UInt8) → Int → Int → Option Int) (h0 : LabOk (F_fold_point_cx fu) (bput F_fold_point_hp d') F_fold_point_out (bodyOf Tryz.f81) (F_fold_point_l0 r0)) : LabOk (F_fold_point_cx fu) (bput F_fold_point_hp d') F_fold_point_out (bodyOf Tryz.f81) (F_fold_point_l0 (F_fold_point_b0 fu r0)) :=
  LabOk.of_run (labs := [F_fold_point_l1 (F_fold_point_p1 fu r0)]) (F_fold_point_cxok fu) (fun _ _ h => idsB_look h) (labs1 (F_fold_point_p1_ok fu d' r0 h0) labs0) (fun d => by kernel_rfl)
theorem F_fold_point_p0_ok (fu : Nat) (d' : bden F_fold_point_hp) : ∀ n, LabOk (F_fold_point_cx fu) (bput F_fold_point_hp d') F_fold_point_out (bodyOf Tryz.f81) (F_fold_point_l0 (F_fold_point_p0 fu n))
  | 0 => fun _ _ h => by cases h
  | n + 1 => F_fold_point_b0_ok fu d' (F_fold_point_p0 fu n) (F_fold_point_p0_ok fu d' n)
theorem F_fold_point_ok (fu : Nat) : (F_fold_point_ent (F_fold_point fu)).Sound Tryz.prog :=
  Ent.sound_fn (cx := F_fold_point_cx fu) (labs := [F_fold_point_l0 (F_fold_point_p0 fu fu)]) (F_fold_point_cxok fu) rfl rfl rfl rfl Tryz.call81 (by kernel_rfl) (fun d' => (labs1 (F_fold_point_p0_ok fu d' fu) labs0)) (fun d d' => by kernel_rfl)
/- posthouse/fold.Fold -/
def F_fold_Fold_out : RS ((Int × Int) × (List (List UInt8))) := .one (α := (Int × Int) × (List (List UInt8))) (.tup [.own 0, .h (.prod (.int .i64) (.int .i64))]) [(0, .row .str 9)] (fun r => (((), (r.1, ())), (r.2, ()))) (fun y => (y.1.2.1, y.2.1)) (fun _ => rfl)
def F_fold_Fold_hp : List (Nat × BPt) := []
def F_fold_Fold_args : List Pt := [.h .str, .h .str]
def F_fold_Fold_ent (r : (List UInt8) → (List UInt8) → Option ((Int × Int) × (List (List UInt8)))) : Ent := { key := .fn 54, args := F_fold_Fold_args, hp := F_fold_Fold_hp, R := ((Int × Int) × (List (List UInt8))), F := fun d _ => r d.1 d.2.1, out := F_fold_Fold_out }
noncomputable def F_fold_Fold_cx (fu : Nat) : Cx := { P := Tryz.prog, tb := ⟨[F_fold_name_ent (F_fold_name fu), F_basic_Fault_ent F_basic_Fault, F_fold_value_ent (F_fold_value fu), F_fold_point_ent (F_fold_point fu), F_basic_None_ent F_basic_None], etys, false⟩, fn := Tryz.f54, f := 54, ids := idsB F_fold_Fold_hp, rd := none, tags := [] }
theorem F_fold_Fold_cxok (fu : Nat) : (F_fold_Fold_cx fu).Ok (bodyOf Tryz.f54) := ⟨(ents1 (F_fold_name_ok fu) (ents1 F_basic_Fault_ok (ents1 (F_fold_value_ok fu) (ents1 (F_fold_point_ok fu) (ents1 F_basic_None_ok ents0))))), Tryz_mixed, Tryz.func54, tags0⟩
def F_fold_Fold_l2 (r : Int → Int → (Int × Int) → (List (List UInt8)) → Option ((Int × Int) × (List (List UInt8)))) : Lab ((Int × Int) × (List (List UInt8))) := ⟨[(0, [0, 0, 0, 1, 0, 1, 1, 1, 1, 1, 1]), (0, [1, 0, 0, 1, 0, 1, 1, 1, 1, 1, 1]), (2, [0, 1, 0, 1, 1, 1, 1, 1, 1]), (1, [1, 0, 1, 1, 1, 1, 1, 1]), (0, [1, 1, 1, 1, 1, 1, 1])], ⟨70, [(5, .ptr 16 0), (8, .own 17), (55, .own 17), (56, .h (.int .i64)), (57, .h (.int .i64))], [(16, .dat (.prod (.int .i64) (.int .i64)) 28), (17, .row .str 9)], 64, []⟩, fun d => r d.1.2.2.2.1 d.1.2.2.2.2.1 d.2.1 d.2.2.1⟩
def F_fold_Fold_l1 (r : (List UInt8) → (Int × Int) → (List (List UInt8)) → Option ((Int × Int) × (List (List UInt8)))) : Lab ((Int × Int) × (List (List UInt8))) := ⟨[(0, [0, 1, 1, 1, 1, 1]), (0, [1, 1, 1, 1, 1, 1])], ⟨70, [(5, .ptr 16 0), (6, .h .str), (8, .own 17)], [(16, .dat (.prod (.int .i64) (.int .i64)) 28), (17, .row .str 9)], 64, []⟩, fun d => r d.1.2.1 d.2.1 d.2.2.1⟩
def F_fold_Fold_l0 (r : (List UInt8) → Int → (Int × Int) → (List (List UInt8)) → Option ((Int × Int) × (List (List UInt8)))) : Lab ((Int × Int) × (List (List UInt8))) := ⟨[(0, [0, 0, 0, 0, 0, 1, 1, 1, 1]), (0, [1, 0, 0, 0, 0, 1, 1, 1, 1]), (0, [1, 0, 0, 0, 1, 1, 1, 1]), (2, [0, 0, 1, 1, 1, 1]), (1, [0, 1, 1, 1, 1]), (0, [1, 1, 1, 1, 1])], ⟨70, [(5, .ptr 16 0), (6, .h .str), (7, .h (.int .i64)), (8, .own 17)], [(16, .dat (.prod (.int .i64) (.int .i64)) 28), (17, .row .str 9)], 64, []⟩, fun d => r d.1.2.1 d.1.2.2.1 d.2.1 d.2.2.1⟩
theorem F_fold_Fold_b2_ok (fu : Nat) (d' : bden F_fold_Fold_hp) (r2 : Int → Int → (Int × Int) → (List (List UInt8)) → Option ((Int × Int) × (List (List UInt8)))) (h2 : LabOk (F_fold_Fold_cx fu) (bput F_fold_Fold_hp d') F_fold_Fold_out (bodyOf Tryz.f54) (F_fold_Fold_l2 r2)) : LabOk (F_fold_Fold_cx fu) (bput F_fold_Fold_hp d') F_fold_Fold_out (bodyOf Tryz.f54) (F_fold_Fold_l2 (F_fold_Fold_b2 fu r2)) :=
  LabOk.of_run (labs := [F_fold_Fold_l2 (r2)]) (F_fold_Fold_cxok fu) (fun _ _ h => idsB_look h) (labs1 h2 labs0) (fun d => by kernel_rfl)
theorem F_fold_Fold_p2_ok (fu : Nat) (d' : bden F_fold_Fold_hp) : ∀ n, LabOk (F_fold_Fold_cx fu) (bput F_fold_Fold_hp d') F_fold_Fold_out (bodyOf Tryz.f54) (F_fold_Fold_l2 (F_fold_Fold_p2 fu n))
  | 0 => fun _ _ h => by cases h
  | n + 1 => F_fold_Fold_b2_ok fu d' (F_fold_Fold_p2 fu n) (F_fold_Fold_p2_ok fu d' n)
theorem F_fold_Fold_p1_ok (fu : Nat) (d' : bden F_fold_Fold_hp) : LabOk (F_fold_Fold_cx fu) (bput F_fold_Fold_hp d') F_fold_Fold_out (bodyOf Tryz.f54) (F_fold_Fold_l1 (F_fold_Fold_p1 fu)) :=
  LabOk.of_run (labs := [F_fold_Fold_l2 (F_fold_Fold_p2 fu fu)]) (F_fold_Fold_cxok fu) (fun _ _ h => idsB_look h) (labs1 (F_fold_Fold_p2_ok fu d' fu) labs0) (fun d => by kernel_rfl)
theorem F_fold_Fold_b0_ok (fu : Nat) (d' : bden F_fold_Fold_hp) (r0 : (List UInt8) → Int → (Int × Int) → (List (List UInt8)) → Option ((Int × Int) × (List (List UInt8)))) (h0 : LabOk (F_fold_Fold_cx fu) (bput F_fold_Fold_hp d') F_fold_Fold_out (bodyOf Tryz.f54) (F_fold_Fold_l0 r0)) : LabOk (F_fold_Fold_cx fu) (bput F_fold_Fold_hp d') F_fold_Fold_out (bodyOf Tryz.f54) (F_fold_Fold_l0 (F_fold_Fold_b0 fu r0)) :=
  LabOk.of_run (labs := [F_fold_Fold_l1 (F_fold_Fold_p1 fu), F_fold_Fold_l0 (r0)]) (F_fold_Fold_cxok fu) (fun _ _ h => idsB_look h) (labs1 (F_fold_Fold_p1_ok fu d') (labs1 h0 labs0)) (fun d => by kernel_rfl)
theorem F_fold_Fold_p0_ok (fu : Nat) (d' : bden F_fold_Fold_hp) : ∀ n, LabOk (F_fold_Fold_cx fu) (bput F_fold_Fold_hp d') F_fold_Fold_out (bodyOf Tryz.f54) (F_fold_Fold_l0 (F_fold_Fold_p0 fu n))
  | 0 => fun _ _ h => by cases h
  | n + 1 => F_fold_Fold_b0_ok fu d' (F_fold_Fold_p0 fu n) (F_fold_Fold_p0_ok fu d' n)
theorem F_fold_Fold_ok (fu : Nat) : (F_fold_Fold_ent (F_fold_Fold fu)).Sound Tryz.prog :=
  Ent.sound_fn (cx := F_fold_Fold_cx fu) (labs := [F_fold_Fold_l0 (F_fold_Fold_p0 fu fu)]) (F_fold_Fold_cxok fu) rfl rfl rfl rfl Tryz.call54 (by kernel_rfl) (fun d' => (labs1 (F_fold_Fold_p0_ok fu d' fu) labs0)) (fun d d' => by kernel_rfl)
/- posthouse/basic.Failed -/
def F_basic_Failed_out : RS Bool := .one (α := Bool) (.h .bool) [] (fun r => (r, ())) (fun y => y.1) (fun _ => rfl)
def F_basic_Failed_hp : List (Nat × BPt) := []
def F_basic_Failed_args : List Pt := [.h (.prod (.int .i64) (.int .i64))]
def F_basic_Failed_ent (r : (Int × Int) → Option Bool) : Ent := { key := .fn 22, args := F_basic_Failed_args, hp := F_basic_Failed_hp, R := Bool, F := fun d _ => r d.1, out := F_basic_Failed_out }
noncomputable def F_basic_Failed_cx : Cx := { P := Tryz.prog, tb := ⟨[], etys, false⟩, fn := Tryz.f22, f := 22, ids := idsB F_basic_Failed_hp, rd := none, tags := [] }
theorem F_basic_Failed_cxok : (F_basic_Failed_cx).Ok (bodyOf Tryz.f22) := ⟨ents0, Tryz_mixed, Tryz.func22, tags0⟩
theorem F_basic_Failed_ok : (F_basic_Failed_ent (F_basic_Failed)).Sound Tryz.prog :=
  Ent.sound_fn (cx := F_basic_Failed_cx) (labs := []) (F_basic_Failed_cxok) rfl rfl rfl rfl Tryz.call22 (by kernel_rfl) (fun _ => labs0) (fun d d' => by kernel_rfl)
/- posthouse/header.name -/
def F_header_name_out : RS Bool := .one (α := Bool) (.h .bool) [] (fun r => (r, ())) (fun y => y.1) (fun _ => rfl)
def F_header_name_hp : List (Nat × BPt) := []
def F_header_name_args : List Pt := [.h .str]
def F_header_name_ent (r : (List UInt8) → Option Bool) : Ent := { key := .fn 68, args := F_header_name_args, hp := F_header_name_hp, R := Bool, F := fun d _ => r d.1, out := F_header_name_out }
noncomputable def F_header_name_cx (fu : Nat) : Cx := { P := Tryz.prog, tb := ⟨[F_fold_Fold_ent (F_fold_Fold fu), F_basic_Failed_ent F_basic_Failed], etys, false⟩, fn := Tryz.f68, f := 68, ids := idsB F_header_name_hp, rd := none, tags := [] }
theorem F_header_name_cxok (fu : Nat) : (F_header_name_cx fu).Ok (bodyOf Tryz.f68) := ⟨(ents1 (F_fold_Fold_ok fu) (ents1 F_basic_Failed_ok ents0)), Tryz_mixed, Tryz.func68, tags0⟩
theorem F_header_name_ok (fu : Nat) : (F_header_name_ent (F_header_name fu)).Sound Tryz.prog :=
  Ent.sound_fn (cx := F_header_name_cx fu) (labs := []) (F_header_name_cxok fu) rfl rfl rfl rfl Tryz.call68 (by kernel_rfl) (fun _ => labs0) (fun d d' => by kernel_rfl)
/- posthouse/header.begins -/
def F_header_begins_out : RS (((List UInt8) × (List UInt8)) × Bool) := .one (α := ((List UInt8) × (List UInt8)) × Bool) (.tup [.h (.prod .str .str), .h .bool]) [] (fun r => ((r.1, (r.2, ())), ())) (fun y => (y.1.1, y.1.2.1)) (fun _ => rfl)
def F_header_begins_hp : List (Nat × BPt) := []
def F_header_begins_args : List Pt := [.h .str]
def F_header_begins_ent (r : (List UInt8) → Option (((List UInt8) × (List UInt8)) × Bool)) : Ent := { key := .fn 45, args := F_header_begins_args, hp := F_header_begins_hp, R := (((List UInt8) × (List UInt8)) × Bool), F := fun d _ => r d.1, out := F_header_begins_out }
noncomputable def F_header_begins_cx (fu : Nat) : Cx := { P := Tryz.prog, tb := ⟨[F_strings_Cut_ent F_strings_Cut, F_strings_TrimRight_ent (F_strings_TrimRight fu), F_header_name_ent (F_header_name fu)], etys, false⟩, fn := Tryz.f45, f := 45, ids := idsB F_header_begins_hp, rd := none, tags := [] }
theorem F_header_begins_cxok (fu : Nat) : (F_header_begins_cx fu).Ok (bodyOf Tryz.f45) := ⟨(ents1 F_strings_Cut_ok (ents1 (F_strings_TrimRight_ok fu) (ents1 (F_header_name_ok fu) ents0))), Tryz_mixed, Tryz.func45, tags0⟩
theorem F_header_begins_ok (fu : Nat) : (F_header_begins_ent (F_header_begins fu)).Sound Tryz.prog :=
  Ent.sound_fn (cx := F_header_begins_cx fu) (labs := []) (F_header_begins_cxok fu) rfl rfl rfl rfl Tryz.call45 (by kernel_rfl) (fun _ => labs0) (fun d d' => by kernel_rfl)
/- (*strings.Replacer).build -/
def F_strings_Replacer_build_out : RS R_strings_Replacer_build := .one (α := Int × Int × Int × (List (List UInt8)) × (List UInt8)) (.iel 134 1 1) [(0, .cells [.h (.int .u32), .h (.int .i32), .h (.int .u32), .c .nilIface, .h (.list .str)] 100), (1, .row .byte 133)] (fun r => ((), ((r.1, (r.2.1, (r.2.2.1, ((), (r.2.2.2.1, ()))))), (r.2.2.2.2, ())))) (fun y => (y.2.1.1, y.2.1.2.1, y.2.1.2.2.1, y.2.1.2.2.2.2.1, y.2.2.1)) (fun _ => rfl)
def F_strings_Replacer_build_hp : List (Nat × BPt) := [(0, .cells [.h (.int .u32), .h (.int .i32), .h (.int .u32), .c .nilIface, .h (.list .str)] 100)]
def F_strings_Replacer_build_args : List Pt := [.ptr 0 0]
def F_strings_Replacer_build_ent (r : Int → Int → Int → (List (List UInt8)) → Option R_strings_Replacer_build) : Ent := { key := .fn 96, args := F_strings_Replacer_build_args, hp := F_strings_Replacer_build_hp, R := R_strings_Replacer_build, F := fun _ d' => r d'.1.1 d'.1.2.1 d'.1.2.2.1 d'.1.2.2.2.2.1, out := F_strings_Replacer_build_out }
noncomputable def F_strings_Replacer_build_cx (fu : Nat) : Cx := { P := Tryz.prog, tb := ⟨[], etys, false⟩, fn := Tryz.f96, f := 96, ids := idsB F_strings_Replacer_build_hp, rd := none, tags := [] }
theorem F_strings_Replacer_build_cxok (fu : Nat) : (F_strings_Replacer_build_cx fu).Ok (bodyOf Tryz.f96) := ⟨ents0, Tryz_mixed, Tryz.func96, tags0⟩
def F_strings_Replacer_build_l3 (r : (List (List UInt8)) → Bool → Int → Int → Int → Int → (List (List UInt8)) → Option R_strings_Replacer_build) : Lab R_strings_Replacer_build := ⟨[(0, [1, 1, 0, 0, 1, 0, 1, 1, 1, 1]), (2, [0, 1, 0, 1, 1, 1, 1]), (1, [1, 0, 1, 1, 1, 1]), (0, [1, 1, 1, 1, 1])], ⟨132, [(3, .h (.list .str)), (4, .h .bool), (5, .h (.int .i64))], [(0, .cells [.h (.int .u32), .h (.int .i32), .h (.int .u32), .c .nilIface, .h (.list .str)] 100)], 64, []⟩, fun d => r d.1.1 d.1.2.1 d.1.2.2.1 d.2.1.1 d.2.1.2.1 d.2.1.2.2.1 d.2.1.2.2.2.2.1⟩
def F_strings_Replacer_build_l5 (r : (List (List UInt8)) → Int → Int → Int → Int → (List (List UInt8)) → (List UInt8) → Option R_strings_Replacer_build) : Lab R_strings_Replacer_build := ⟨[(0, [0, 0, 0, 0, 1, 0, 1, 1, 0, 1, 0, 1, 1, 1, 1, 1]), (0, [1, 0, 0, 0, 1, 0, 1, 1, 0, 1, 0, 1, 1, 1, 1, 1]), (0, [1, 0, 0, 1, 0, 1, 1, 0, 1, 0, 1, 1, 1, 1, 1]), (2, [0, 1, 0, 1, 1, 0, 1, 0, 1, 1, 1, 1, 1]), (1, [1, 0, 1, 1, 0, 1, 0, 1, 1, 1, 1, 1]), (0, [1, 1, 1, 0, 1, 0, 1, 1, 1, 1, 1]), (0, [1, 1, 1, 1, 1, 1])], ⟨132, [(3, .h (.list .str)), (6, .el 16 1), (8, .h (.int .i64))], [(0, .cells [.h (.int .u32), .h (.int .i32), .h (.int .u32), .c .nilIface, .h (.list .str)] 100), (16, .row .byte 133)], 64, []⟩, fun d => r d.1.1 d.1.2.2.1 d.2.1.1 d.2.1.2.1 d.2.1.2.2.1 d.2.1.2.2.2.2.1 d.2.2.1⟩
def F_strings_Replacer_build_l4 (r : (List (List UInt8)) → Int → Int → Int → Int → (List (List UInt8)) → (List UInt8) → Option R_strings_Replacer_build) : Lab R_strings_Replacer_build := ⟨[(0, [0, 0, 0, 1, 0, 1, 0, 1, 0, 1, 1, 1, 1, 1]), (0, [1, 0, 0, 1, 0, 1, 0, 1, 0, 1, 1, 1, 1, 1]), (2, [0, 1, 0, 1, 0, 1, 0, 1, 1, 1, 1, 1]), (1, [1, 0, 1, 0, 1, 0, 1, 1, 1, 1, 1]), (0, [1, 1, 0, 1, 0, 1, 1, 1, 1, 1]), (0, [1, 1, 1, 1, 1, 1])], ⟨132, [(3, .h (.list .str)), (6, .el 16 1), (61, .h (.int .i64))], [(0, .cells [.h (.int .u32), .h (.int .i32), .h (.int .u32), .c .nilIface, .h (.list .str)] 100), (16, .row .byte 133)], 64, []⟩, fun d => r d.1.1 d.1.2.2.1 d.2.1.1 d.2.1.2.1 d.2.1.2.2.1 d.2.1.2.2.2.2.1 d.2.2.1⟩
def F_strings_Replacer_build_l2 (r : (List (List UInt8)) → Bool → Int → Int → Int → Int → (List (List UInt8)) → Option R_strings_Replacer_build) : Lab R_strings_Replacer_build := ⟨[(0, [0, 0, 0, 0, 1, 0, 1, 1, 1, 1]), (0, [1, 0, 0, 0, 1, 0, 1, 1, 1, 1]), (0, [1, 0, 0, 1, 0, 1, 1, 1, 1]), (2, [0, 1, 0, 1, 1, 1, 1]), (1, [1, 0, 1, 1, 1, 1]), (0, [1, 1, 1, 1, 1])], ⟨132, [(3, .h (.list .str)), (4, .h .bool), (5, .h (.int .i64))], [(0, .cells [.h (.int .u32), .h (.int .i32), .h (.int .u32), .c .nilIface, .h (.list .str)] 100)], 64, []⟩, fun d => r d.1.1 d.1.2.1 d.1.2.2.1 d.2.1.1 d.2.1.2.1 d.2.1.2.2.1 d.2.1.2.2.2.2.1⟩
def F_strings_Replacer_build_l1 (r : (List (List UInt8)) → Int → Int → Int → (List (List UInt8)) → Option R_strings_Replacer_build) : Lab R_strings_Replacer_build := ⟨[(0, [0, 1, 1, 1]), (0, [1, 1, 1, 1])], ⟨132, [(3, .h (.list .str))], [(0, .cells [.h (.int .u32), .h (.int .i32), .h (.int .u32), .c .nilIface, .h (.list .str)] 100)], 64, []⟩, fun d => r d.1.1 d.2.1.1 d.2.1.2.1 d.2.1.2.2.1 d.2.1.2.2.2.2.1⟩
def F_strings_Replacer_build_l0 (r : (List (List UInt8)) → Bool → Int → Int → Int → (List (List UInt8)) → Option R_strings_Replacer_build) : Lab R_strings_Replacer_build := ⟨[(0, [1, 0, 1, 1]), (0, [1, 1, 1])], ⟨132, [(3, .h (.list .str)), (28, .h .bool)], [(0, .cells [.h (.int .u32), .h (.int .i32), .h (.int .u32), .c .nilIface, .h (.list .str)] 100)], 64, []⟩, fun d => r d.1.1 d.1.2.1 d.2.1.1 d.2.1.2.1 d.2.1.2.2.1 d.2.1.2.2.2.2.1⟩
theorem F_strings_Replacer_build_p3_ok (fu : Nat) (d' : bden F_strings_Replacer_build_hp) (r2 : (List (List UInt8)) → Bool → Int → Int → Int → Int → (List (List UInt8)) → Option R_strings_Replacer_build) (h2 : LabOk (F_strings_Replacer_build_cx fu) (bput F_strings_Replacer_build_hp d') F_strings_Replacer_build_out (bodyOf Tryz.f96) (F_strings_Replacer_build_l2 r2)) : LabOk (F_strings_Replacer_build_cx fu) (bput F_strings_Replacer_build_hp d') F_strings_Replacer_build_out (bodyOf Tryz.f96) (F_strings_Replacer_build_l3 (F_strings_Replacer_build_p3 fu r2)) :=
  LabOk.of_run (labs := [F_strings_Replacer_build_l2 (r2)]) (F_strings_Replacer_build_cxok fu) (fun _ _ h => idsB_look h) (labs1 h2 labs0) (fun d => by kernel_rfl)
theorem F_strings_Replacer_build_b5_ok (fu : Nat) (d' : bden F_strings_Replacer_build_hp) (r5 : (List (List UInt8)) → Int → Int → Int → Int → (List (List UInt8)) → (List UInt8) → Option R_strings_Replacer_build) (h5 : LabOk (F_strings_Replacer_build_cx fu) (bput F_strings_Replacer_build_hp d') F_strings_Replacer_build_out (bodyOf Tryz.f96) (F_strings_Replacer_build_l5 r5)) : LabOk (F_strings_Replacer_build_cx fu) (bput F_strings_Replacer_build_hp d') F_strings_Replacer_build_out (bodyOf Tryz.f96) (F_strings_Replacer_build_l5 (F_strings_Replacer_build_b5 fu r5)) :=
  LabOk.of_run (labs := [F_strings_Replacer_build_l5 (r5)]) (F_strings_Replacer_build_cxok fu) (fun _ _ h => idsB_look h) (labs1 h5 labs0) (fun d => by kernel_rfl)
theorem F_strings_Replacer_build_p5_ok (fu : Nat) (d' : bden F_strings_Replacer_build_hp) : ∀ n, LabOk (F_strings_Replacer_build_cx fu) (bput F_strings_Replacer_build_hp d') F_strings_Replacer_build_out (bodyOf Tryz.f96) (F_strings_Replacer_build_l5 (F_strings_Replacer_build_p5 fu n))
  | 0 => fun _ _ h => by cases h
  | n + 1 => F_strings_Replacer_build_b5_ok fu d' (F_strings_Replacer_build_p5 fu n) (F_strings_Replacer_build_p5_ok fu d' n)
theorem F_strings_Replacer_build_b4_ok (fu : Nat) (d' : bden F_strings_Replacer_build_hp) (r4 : (List (List UInt8)) → Int → Int → Int → Int → (List (List UInt8)) → (List UInt8) → Option R_strings_Replacer_build) (h4 : LabOk (F_strings_Replacer_build_cx fu) (bput F_strings_Replacer_build_hp d') F_strings_Replacer_build_out (bodyOf Tryz.f96) (F_strings_Replacer_build_l4 r4)) : LabOk (F_strings_Replacer_build_cx fu) (bput F_strings_Replacer_build_hp d') F_strings_Replacer_build_out (bodyOf Tryz.f96) (F_strings_Replacer_build_l4 (F_strings_Replacer_build_b4 fu r4)) :=
  LabOk.of_run (labs := [F_strings_Replacer_build_l4 (r4), F_strings_Replacer_build_l5 (F_strings_Replacer_build_p5 fu fu)]) (F_strings_Replacer_build_cxok fu) (fun _ _ h => idsB_look h) (labs1 h4 (labs1 (F_strings_Replacer_build_p5_ok fu d' fu) labs0)) (fun d => by kernel_rfl)
theorem F_strings_Replacer_build_p4_ok (fu : Nat) (d' : bden F_strings_Replacer_build_hp) : ∀ n, LabOk (F_strings_Replacer_build_cx fu) (bput F_strings_Replacer_build_hp d') F_strings_Replacer_build_out (bodyOf Tryz.f96) (F_strings_Replacer_build_l4 (F_strings_Replacer_build_p4 fu n))
  | 0 => fun _ _ h => by cases h
  | n + 1 => F_strings_Replacer_build_b4_ok fu d' (F_strings_Replacer_build_p4 fu n) (F_strings_Replacer_build_p4_ok fu d' n)
theorem F_strings_Replacer_build_b2_ok (fu : Nat) (d' : bden F_strings_Replacer_build_hp) (r2 : (List (List UInt8)) → Bool → Int → Int → Int → Int → (List (List UInt8)) → Option R_strings_Replacer_build) (h2 : LabOk (F_strings_Replacer_build_cx fu) (bput F_strings_Replacer_build_hp d') F_strings_Replacer_build_out (bodyOf Tryz.f96) (F_strings_Replacer_build_l2 r2)) : LabOk (F_strings_Replacer_build_cx fu) (bput F_strings_Replacer_build_hp d') F_strings_Replacer_build_out (bodyOf Tryz.f96) (F_strings_Replacer_build_l2 (F_strings_Replacer_build_b2 fu r2)) :=
  LabOk.of_run (labs := [F_strings_Replacer_build_l3 (F_strings_Replacer_build_p3 fu r2), F_strings_Replacer_build_l4 (F_strings_Replacer_build_p4 fu fu)]) (F_strings_Replacer_build_cxok fu) (fun _ _ h => idsB_look h) (labs1 (F_strings_Replacer_build_p3_ok fu d' r2 h2) (labs1 (F_strings_Replacer_build_p4_ok fu d' fu) labs0)) (fun d => by kernel_rfl)
theorem F_strings_Replacer_build_p2_ok (fu : Nat) (d' : bden F_strings_Replacer_build_hp) : ∀ n, LabOk (F_strings_Replacer_build_cx fu) (bput F_strings_Replacer_build_hp d') F_strings_Replacer_build_out (bodyOf Tryz.f96) (F_strings_Replacer_build_l2 (F_strings_Replacer_build_p2 fu n))
  | 0 => fun _ _ h => by cases h
  | n + 1 => F_strings_Replacer_build_b2_ok fu d' (F_strings_Replacer_build_p2 fu n) (F_strings_Replacer_build_p2_ok fu d' n)
theorem F_strings_Replacer_build_p1_ok (fu : Nat) (d' : bden F_strings_Replacer_build_hp) : LabOk (F_strings_Replacer_build_cx fu) (bput F_strings_Replacer_build_hp d') F_strings_Replacer_build_out (bodyOf Tryz.f96) (F_strings_Replacer_build_l1 (F_strings_Replacer_build_p1 fu)) :=
  LabOk.of_run (labs := [F_strings_Replacer_build_l2 (F_strings_Replacer_build_p2 fu fu)]) (F_strings_Replacer_build_cxok fu) (fun _ _ h => idsB_look h) (labs1 (F_strings_Replacer_build_p2_ok fu d' fu) labs0) (fun d => by kernel_rfl)
theorem F_strings_Replacer_build_p0_ok (fu : Nat) (d' : bden F_strings_Replacer_build_hp) : LabOk (F_strings_Replacer_build_cx fu) (bput F_strings_Replacer_build_hp d') F_strings_Replacer_build_out (bodyOf Tryz.f96) (F_strings_Replacer_build_l0 (F_strings_Replacer_build_p0 fu)) :=
  LabOk.of_run (labs := [F_strings_Replacer_build_l1 (F_strings_Replacer_build_p1 fu)]) (F_strings_Replacer_build_cxok fu) (fun _ _ h => idsB_look h) (labs1 (F_strings_Replacer_build_p1_ok fu d') labs0) (fun d => by kernel_rfl)
theorem F_strings_Replacer_build_ok (fu : Nat) : (F_strings_Replacer_build_ent (F_strings_Replacer_build fu)).Sound Tryz.prog :=
  Ent.sound_fn (cx := F_strings_Replacer_build_cx fu) (labs := [F_strings_Replacer_build_l0 (F_strings_Replacer_build_p0 fu)]) (F_strings_Replacer_build_cxok fu) rfl rfl rfl rfl Tryz.call96 (by kernel_rfl) (fun d' => (labs1 (F_strings_Replacer_build_p0_ok fu d') labs0)) (fun d d' => by kernel_rfl)
/- (*strings.Replacer).buildOnce -/
def F_strings_Replacer_buildOnce_out : RS R_strings_Replacer_buildOnce := .one (α := Int × Int × Int × (List UInt8) × (List (List UInt8))) (.tup []) [(0, .cells [.h (.int .u32), .h (.int .i32), .h (.int .u32), .iel 134 1 1, .own 2] 100), (1, .row .byte 133), (2, .row .str 9)] (fun r => ((), ((r.1, (r.2.1, (r.2.2.1, ((), ((), ()))))), (r.2.2.2.1, (r.2.2.2.2, ()))))) (fun y => (y.2.1.1, y.2.1.2.1, y.2.1.2.2.1, y.2.2.1, y.2.2.2.1)) (fun _ => rfl)
def F_strings_Replacer_buildOnce_hp : List (Nat × BPt) := [(0, .cells [.h (.int .u32), .h (.int .i32), .h (.int .u32), .c .nilIface, .h (.list .str)] 100)]
def F_strings_Replacer_buildOnce_args : List Pt := [.ptr 0 0]
def F_strings_Replacer_buildOnce_ent (r : Int → Int → Int → (List (List UInt8)) → Option R_strings_Replacer_buildOnce) : Ent := { key := .fn 77, args := F_strings_Replacer_buildOnce_args, hp := F_strings_Replacer_buildOnce_hp, R := R_strings_Replacer_buildOnce, F := fun _ d' => r d'.1.1 d'.1.2.1 d'.1.2.2.1 d'.1.2.2.2.2.1, out := F_strings_Replacer_buildOnce_out }
noncomputable def F_strings_Replacer_buildOnce_cx (fu : Nat) : Cx := { P := Tryz.prog, tb := ⟨[F_strings_Replacer_build_ent (F_strings_Replacer_build fu)], etys, false⟩, fn := Tryz.f77, f := 77, ids := idsB F_strings_Replacer_buildOnce_hp, rd := none, tags := [] }
theorem F_strings_Replacer_buildOnce_cxok (fu : Nat) : (F_strings_Replacer_buildOnce_cx fu).Ok (bodyOf Tryz.f77) := ⟨(ents1 (F_strings_Replacer_build_ok fu) ents0), Tryz_mixed, Tryz.func77, tags0⟩
theorem F_strings_Replacer_buildOnce_ok (fu : Nat) : (F_strings_Replacer_buildOnce_ent (F_strings_Replacer_buildOnce fu)).Sound Tryz.prog :=
  Ent.sound_fn (cx := F_strings_Replacer_buildOnce_cx fu) (labs := []) (F_strings_Replacer_buildOnce_cxok fu) rfl rfl rfl rfl Tryz.call77 (by kernel_rfl) (fun _ => labs0) (fun d d' => by kernel_rfl)
/- (*strings.byteReplacer).Replace -/
def F_strings_byteReplacer_Replace_out : RS ((List UInt8) × (List UInt8)) := .one (α := (List UInt8) × (List UInt8)) (.h .str) [(0, .row .byte 133)] (fun r => (r.1, (r.2, ()))) (fun y => (y.1, y.2.1)) (fun _ => rfl)
def F_strings_byteReplacer_Replace_hp : List (Nat × BPt) := [(0, .row .byte 133)]
def F_strings_byteReplacer_Replace_args : List Pt := [.el 0 1, .h .str]
def F_strings_byteReplacer_Replace_ent (r : (List UInt8) → (List UInt8) → Option ((List UInt8) × (List UInt8))) : Ent := { key := .fn 170, args := F_strings_byteReplacer_Replace_args, hp := F_strings_byteReplacer_Replace_hp, R := ((List UInt8) × (List UInt8)), F := fun d d' => r d.2.1 d'.1, out := F_strings_byteReplacer_Replace_out }
noncomputable def F_strings_byteReplacer_Replace_cx (fu : Nat) : Cx := { P := Tryz.prog, tb := ⟨[], etys, false⟩, fn := Tryz.f170, f := 170, ids := idsB F_strings_byteReplacer_Replace_hp, rd := none, tags := [] }
theorem F_strings_byteReplacer_Replace_cxok (fu : Nat) : (F_strings_byteReplacer_Replace_cx fu).Ok (bodyOf Tryz.f170) := ⟨ents0, Tryz_mixed, Tryz.func170, tags0⟩
def F_strings_byteReplacer_Replace_l1 (r : (List UInt8) → Int → UInt8 → (List UInt8) → (List UInt8) → Option ((List UInt8) × (List UInt8))) : Lab ((List UInt8) × (List UInt8)) := ⟨[(0, [1, 0, 1, 1, 0, 0, 1, 0, 0, 1, 0, 1, 1]), (1, [0, 1, 0, 0, 1, 0, 1, 1]), (0, [1, 1, 0, 0, 1, 0, 1, 1]), (2, [0, 1, 0, 1, 1]), (1, [1, 0, 1, 1]), (0, [1, 1, 1])], ⟨41, [(0, .el 0 1), (1, .h .str), (5, .own 16), (6, .h (.int .i64)), (7, .h .byte)], [(0, .row .byte 133), (16, .row .byte 5)], 64, []⟩, fun d => r d.1.2.1 d.1.2.2.2.1 d.1.2.2.2.2.1 d.2.1 d.2.2.1⟩
def F_strings_byteReplacer_Replace_l2 (r : (List UInt8) → Int → (List UInt8) → (List UInt8) → Option ((List UInt8) × (List UInt8))) : Lab ((List UInt8) × (List UInt8)) := ⟨[(0, [0, 0, 0, 0, 1, 0, 1, 1]), (0, [1, 0, 0, 0, 1, 0, 1, 1]), (0, [1, 0, 0, 1, 0, 1, 1]), (2, [0, 1, 0, 1, 1]), (1, [1, 0, 1, 1]), (0, [1, 1, 1])], ⟨41, [(0, .el 0 1), (1, .h .str), (5, .own 16), (6, .h (.int .i64))], [(0, .row .byte 133), (16, .row .byte 5)], 64, []⟩, fun d => r d.1.2.1 d.1.2.2.2.1 d.2.1 d.2.2.1⟩
def F_strings_byteReplacer_Replace_l0 (r : (List UInt8) → Int → (List UInt8) → Option ((List UInt8) × (List UInt8))) : Lab ((List UInt8) × (List UInt8)) := ⟨[(0, [0, 0, 0, 0, 1, 0, 1, 1]), (0, [1, 0, 0, 0, 1, 0, 1, 1]), (0, [1, 0, 0, 1, 0, 1, 1]), (2, [0, 1, 0, 1, 1]), (1, [1, 0, 1, 1]), (0, [1, 1, 1])], ⟨41, [(0, .el 0 1), (1, .h .str), (5, .c .nilS), (6, .h (.int .i64))], [(0, .row .byte 133)], 64, []⟩, fun d => r d.1.2.1 d.1.2.2.2.1 d.2.1⟩
theorem F_strings_byteReplacer_Replace_p1_ok (fu : Nat) (d' : bden F_strings_byteReplacer_Replace_hp) (r2 : (List UInt8) → Int → (List UInt8) → (List UInt8) → Option ((List UInt8) × (List UInt8))) (h2 : LabOk (F_strings_byteReplacer_Replace_cx fu) (bput F_strings_byteReplacer_Replace_hp d') F_strings_byteReplacer_Replace_out (bodyOf Tryz.f170) (F_strings_byteReplacer_Replace_l2 r2)) : LabOk (F_strings_byteReplacer_Replace_cx fu) (bput F_strings_byteReplacer_Replace_hp d') F_strings_byteReplacer_Replace_out (bodyOf Tryz.f170) (F_strings_byteReplacer_Replace_l1 (F_strings_byteReplacer_Replace_p1 fu r2)) :=
  LabOk.of_run (labs := [F_strings_byteReplacer_Replace_l2 (r2)]) (F_strings_byteReplacer_Replace_cxok fu) (fun _ _ h => idsB_look h) (labs1 h2 labs0) (fun d => by kernel_rfl)
theorem F_strings_byteReplacer_Replace_b2_ok (fu : Nat) (d' : bden F_strings_byteReplacer_Replace_hp) (r2 : (List UInt8) → Int → (List UInt8) → (List UInt8) → Option ((List UInt8) × (List UInt8))) (h2 : LabOk (F_strings_byteReplacer_Replace_cx fu) (bput F_strings_byteReplacer_Replace_hp d') F_strings_byteReplacer_Replace_out (bodyOf Tryz.f170) (F_strings_byteReplacer_Replace_l2 r2)) : LabOk (F_strings_byteReplacer_Replace_cx fu) (bput F_strings_byteReplacer_Replace_hp d') F_strings_byteReplacer_Replace_out (bodyOf Tryz.f170) (F_strings_byteReplacer_Replace_l2 (F_strings_byteReplacer_Replace_b2 fu r2)) :=
  LabOk.of_run (labs := [F_strings_byteReplacer_Replace_l1 (F_strings_byteReplacer_Replace_p1 fu r2), F_strings_byteReplacer_Replace_l2 (r2)]) (F_strings_byteReplacer_Replace_cxok fu) (fun _ _ h => idsB_look h) (labs1 (F_strings_byteReplacer_Replace_p1_ok fu d' r2 h2) (labs1 h2 labs0)) (fun d => by kernel_rfl)
theorem F_strings_byteReplacer_Replace_p2_ok (fu : Nat) (d' : bden F_strings_byteReplacer_Replace_hp) : ∀ n, LabOk (F_strings_byteReplacer_Replace_cx fu) (bput F_strings_byteReplacer_Replace_hp d') F_strings_byteReplacer_Replace_out (bodyOf Tryz.f170) (F_strings_byteReplacer_Replace_l2 (F_strings_byteReplacer_Replace_p2 fu n))
  | 0 => fun _ _ h => by cases h
  | n + 1 => F_strings_byteReplacer_Replace_b2_ok fu d' (F_strings_byteReplacer_Replace_p2 fu n) (F_strings_byteReplacer_Replace_p2_ok fu d' n)
theorem F_strings_byteReplacer_Replace_b0_ok (fu : Nat) (d' : bden F_strings_byteReplacer_Replace_hp) (r0 : (List UInt8) → Int → (List UInt8) → Option ((List UInt8) × (List UInt8))) (h0 : LabOk (F_strings_byteReplacer_Replace_cx fu) (bput F_strings_byteReplacer_Replace_hp d') F_strings_byteReplacer_Replace_out (bodyOf Tryz.f170) (F_strings_byteReplacer_Replace_l0 r0)) : LabOk (F_strings_byteReplacer_Replace_cx fu) (bput F_strings_byteReplacer_Replace_hp d') F_strings_byteReplacer_Replace_out (bodyOf Tryz.f170) (F_strings_byteReplacer_Replace_l0 (F_strings_byteReplacer_Replace_b0 fu r0)) :=
  LabOk.of_run (labs := [F_strings_byteReplacer_Replace_l0 (r0), F_strings_byteReplacer_Replace_l1 (F_strings_byteReplacer_Replace_p1 fu (F_strings_byteReplacer_Replace_p2 fu fu))]) (F_strings_byteReplacer_Replace_cxok fu) (fun _ _ h => idsB_look h) (labs1 h0 (labs1 (F_strings_byteReplacer_Replace_p1_ok fu d' (F_strings_byteReplacer_Replace_p2 fu fu) (F_strings_byteReplacer_Replace_p2_ok fu d' fu)) labs0)) (fun d => by kernel_rfl)
theorem F_strings_byteReplacer_Replace_p0_ok (fu : Nat) (d' : bden F_strings_byteReplacer_Replace_hp) : ∀ n, LabOk (F_strings_byteReplacer_Replace_cx fu) (bput F_strings_byteReplacer_Replace_hp d') F_strings_byteReplacer_Replace_out (bodyOf Tryz.f170) (F_strings_byteReplacer_Replace_l0 (F_strings_byteReplacer_Replace_p0 fu n))
  | 0 => fun _ _ h => by cases h
  | n + 1 => F_strings_byteReplacer_Replace_b0_ok fu d' (F_strings_byteReplacer_Replace_p0 fu n) (F_strings_byteReplacer_Replace_p0_ok fu d' n)
theorem F_strings_byteReplacer_Replace_ok (fu : Nat) : (F_strings_byteReplacer_Replace_ent (F_strings_byteReplacer_Replace fu)).Sound Tryz.prog :=
  Ent.sound_fn (cx := F_strings_byteReplacer_Replace_cx fu) (labs := [F_strings_byteReplacer_Replace_l0 (F_strings_byteReplacer_Replace_p0 fu fu)]) (F_strings_byteReplacer_Replace_cxok fu) rfl rfl rfl rfl Tryz.call170 (by kernel_rfl) (fun d' => (labs1 (F_strings_byteReplacer_Replace_p0_ok fu d' fu) labs0)) (fun d d' => by kernel_rfl)
/- strings.Replacer's Replace as an entry -/
def F_repl_out : RS (List UInt8 × Int × Int × Int × List UInt8) := .one (α := List UInt8 × Int × Int × Int × List UInt8) (.h .str) [(0, .cells [.h (.int .u32), .h (.int .i32), .h (.int .u32), .iel 134 1 1, .u] 100), (1, .row .byte 133)]
  (fun r => (r.1, ((r.2.1, (r.2.2.1, (r.2.2.2.1, ((), ((), ()))))), (r.2.2.2.2, ())))) (fun y => (y.1, y.2.1.1, y.2.1.2.1, y.2.1.2.2.1, y.2.2.1)) (fun _ => rfl)
def F_repl_first_ent (r : List UInt8 → Int → Int → Int → List (List UInt8) → Option (List UInt8 × Int × Int × Int × List UInt8)) : Ent := { key := .fn 48, args := [.ptr 0 0, .h .str], hp := [(0, .cells [.h (.int .u32), .h (.int .i32), .h (.int .u32), .c .nilIface, .h (.list .str)] 100)], R := List UInt8 × Int × Int × Int × List UInt8, F := fun d d' => r d.2.1 d'.1.1 d'.1.2.1 d'.1.2.2.1 d'.1.2.2.2.2.1, out := F_repl_out }
def F_repl_later_ent (r : List UInt8 → Int → Int → Int → List UInt8 → Option (List UInt8 × Int × Int × Int × List UInt8)) : Ent := { key := .fn 48, args := [.ptr 0 0, .h .str], hp := [(0, .cells [.h (.int .u32), .h (.int .i32), .h (.int .u32), .iel 134 1 1, .u] 100), (1, .row .byte 133)], R := List UInt8 × Int × Int × Int × List UInt8, F := fun d d' => r d.2.1 d'.1.1 d'.1.2.1 d'.1.2.2.1 d'.2.1, out := F_repl_out }
theorem F_repl_first_calls (fu : Nat) (s : List UInt8) (p0 p1 p2 : Int) (on : List (List UInt8)) (r : List UInt8 × Int × Int × Int × List UInt8) (hr : F_repl_first fu s p0 p1 p2 on = some r) :
    CallsTo Tryz.prog 48 [.ptr 0 0, .str s] [(0, .cells [.int .u32 p0, .int .i32 p1, .int .u32 p2, .val .nilIface, .sl .str on] 100)] (.str r.1) [(0, .cells [.int .u32 r.2.1, .int .i32 r.2.2.1, .int .u32 r.2.2.2.1, .iface 134 (.oel 1 1 0 0), .undef] 100), (1, .row .byte r.2.2.2.2 133)] := by
  unfold F_repl_first at hr
  cases hc : decide (p0 = 0) && decide (p1 = 0) <;> rw [hc] at hr <;> simp only [cond_true, cond_false, reduceCtorEq] at hr
  simp only [Bool.and_eq_true, decide_eq_true_eq] at hc
  obtain ⟨rfl, rfl⟩ := hc
  obtain ⟨x, hx, hr⟩ := Option.bind_eq_some_iff.1 hr
  obtain ⟨x0, x1, x2, tab, on'⟩ := x
  simp only at hr
  cases hc2 : decide (x0 = 0) && decide (x1 = 1) <;> rw [hc2] at hr <;> simp only [cond_true, cond_false, reduceCtorEq] at hr
  simp only [Bool.and_eq_true, decide_eq_true_eq] at hc2
  obtain ⟨rfl, rfl⟩ := hc2
  obtain ⟨y, hy, hr⟩ := Option.bind_eq_some_iff.1 hr
  obtain ⟨out, tab'⟩ := y
  simp only [Option.some.injEq] at hr
  subst hr
  have hB : CallsTo Tryz.prog 77 [.ptr 0 0] [(0, .cells [.int .u32 0, .int .i32 1, .int .u32 p2, .val .nilIface, .sl .str on] 100)] (.tup []) [(0, .cells [.int .u32 0, .int .i32 1, .int .u32 x2, .iface 134 (.oel 1 1 0 0), .own 2] 100), (1, .row .byte tab 133), (2, .row .str on' 9)] :=
    (F_strings_Replacer_buildOnce_ok fu ((), ()) (((0 : Int), ((1 : Int), (p2, ((), (on, ()))))), ()) (0, 1, x2, tab, on') hx).2
  have hP : CallsTo Tryz.prog 170 [.oel 0 1 0 0, .str s] [(0, .row .byte tab 133)] (.str out) [(0, .row .byte tab' 133)] :=
    (F_strings_byteReplacer_Replace_ok fu ((), (s, ())) (tab, ()) (out, tab') hy).2
  intro w G vs hm hv
  show Calls _ _ _ _ (Post w G [(0, .cells [.int .u32 0, .int .i32 0, .int .u32 p2, .val .nilIface, .sl .str on] 100)] (.str out) [(0, .cells [.int .u32 1, .int .i32 0, .int .u32 x2, .iface 134 (.oel 1 1 0 0), .undef] 100), (1, .row .byte tab' 133)])
  have hm : Mem G [(0, .cells [.int .u32 0, .int .i32 0, .int .u32 p2, .val .nilIface, .sl .str on] 100)] w := hm
  have hv : Reps [.ptr 0 0, .str s] G vs := hv
  match vs, hv with
  | [v1, v2], hv =>
  obtain ⟨⟨B, hGB, rfl⟩, rfl, _⟩ := hv
  have hid : ∀ n b, look ([(0, .cells [.int .u32 0, .int .i32 0, .int .u32 p2, .val .nilIface, .sl .str on] 100)] : List (Nat × Box)) n = some b → rho [(0, 0)] n = some n ∧ renB (rho [(0, 0)]) b = b := by
    intro n b h
    cases n with
    | zero => cases h; exact ⟨rfl, rfl⟩
    | succ n => cases h
  have hr0 := Rel.start (N := [(0, 0)]) hm hid (fun n h => by
    cases n with
    | zero => cases h
    | succ n => rfl) 4
  have hGB0 : (G.view [(0, 0)]).box 0 = some B := hGB
  obtain ⟨c0, e0, r0, z0⟩ := hr0.cellAt (i := 0) rfl hGB0 rfl
  obtain ⟨c1, e1, r1, z1⟩ := hr0.cellAt (i := 1) rfl hGB0 rfl
  have r0 : c0 = .int .u32 0 := r0
  have r1 : c1 = .int .i32 0 := r1
  subst r0 r1
  have hr1 := hr0.setCellAt (i := 1) (x := .int .i32 1) (v := .int .i32 1) rfl hGB0 rfl rfl
  -- the building
  have hmB : Mem ((G.view [(0, 0)]).view [(0, 0)]) [(0, .cells [.int .u32 0, .int .i32 1, .int .u32 p2, .val .nilIface, .sl .str on] 100)] (w.setCell ⟨B, 1, none⟩ (.int .i32 1)) :=
    hr1.fin.mem.view (names := [(0, 0)]) rfl (fun m m' n h1 h2 => by
      cases m with
      | zero => cases m' with
        | zero => rfl
        | succ m' => cases h2
      | succ m => cases h1)
  have hcB := hB (w.setCell ⟨B, 1, none⟩ (.int .i32 1)) ((G.view [(0, 0)]).view [(0, 0)]) [.pointer (some ⟨B, 0, none⟩)] hmB ⟨⟨B, hGB, rfl⟩, trivial⟩
  let s2 : St := { n := 4, fr := [(0, .tup [])], hp := [(0, .cells [.int .u32 0, .int .i32 1, .int .u32 x2, .iface 134 (.oel 65 1 0 0), .own 66] 100), (65, .row .byte tab 133), (66, .row .str on' 9), (0, .dead), (0, .cells [.int .u32 0, .int .i32 1, .int .u32 p2, .val .nilIface, .sl .str on] 100), (0, .cells [.int .u32 0, .int .i32 0, .int .u32 p2, .val .nilIface, .sl .str on] 100)], nx := 64, df := [] }
  let hp0 : List (Nat × Box) := [(0, .cells [.int .u32 0, .int .i32 0, .int .u32 p2, .val .nilIface, .sl .str on] 100)]
  let R : World → Prop := fun w' => ∃ G2 a2, Rel w (G.view [(0, 0)]) hp0 G2 s2 a2 w'
  have hBw : ∀ {w' : World} {G2 : Gh} {a2 : Act}, Rel w (G.view [(0, 0)]) hp0 G2 s2 a2 w' → G2.box 0 = some B := fun h => h.fin.keep 0 _ B rfl hGB0
  refine (Go.Proofs.YtojpbgaccmkggaaGreatDoor.Once.replace_first B ⟨s.toArray⟩ w R (fun v w' => ∃ G4, Fin w G hp0 G4 [(0, .cells [.int .u32 1, .int .i32 0, .int .u32 x2, .iface 134 (.oel 1 1 0 0), .undef] 100), (1, .row .byte tab' 133)] w' ∧ Rep (.str out) G4 v) e0 e1 z0 z1 ?_ ?_ ?_).mono ?_
  · refine hcB.mono ?_
    intro e w' hpost
    obtain ⟨G2, v, he, hr2⟩ := mem_rel hr1 (t := 0) (names := [(0, 0)]) (hpv := [(0, .cells [.int .u32 0, .int .i32 1, .int .u32 p2, .val .nilIface, .sl .str on] 100)]) (hp := [(0, .cells [.int .u32 0, .int .i32 1, .int .u32 p2, .val .nilIface, .sl .str on] 100)]) rfl rfl (show 0 < 4 by decide) rfl rfl ⟨rfl, rfl, rfl, rfl, rfl, trivial⟩ hpost
    obtain ⟨u, u1, u2⟩ := hr2.frame 0 _ rfl
    have u3 : u = v := by simpa [Act.put] using u1.symm
    obtain ⟨us, h1, h2⟩ := u2
    have : us = #[] := by
      cases hq : us.toList with
      | nil => simpa using hq
      | cons _ _ => rw [hq] at h2; exact h2.elim
    subst this
    subst u3
    exact ⟨by rw [he, h1], G2, _, hr2⟩
  · rintro w' ⟨G2, a2, hr2⟩
    obtain ⟨d0, f0, q0, y0⟩ := hr2.cellAt (i := 0) rfl (hBw hr2) rfl
    obtain ⟨d1, f1, q1, y1⟩ := hr2.cellAt (i := 1) rfl (hBw hr2) rfl
    have q0 : d0 = .int .u32 0 := q0
    have q1 : d1 = .int .i32 1 := q1
    subst q0 q1
    exact ⟨f0, y0, f1, y1⟩
  · rintro w' ⟨G2, a2, hr2⟩
    obtain ⟨d3, f3, q3, _⟩ := hr2.cellAt (i := 3) rfl (hBw hr2) rfl
    obtain ⟨u3, rfl, g, n3, c3, o3, rfl⟩ := q3
    refine ⟨g, by simpa using f3, ?_⟩
    have hr3 := (hr2.drewOk.setCellAt (i := 0) (x := .int .u32 1) (v := .int .u32 1) rfl (hBw hr2) rfl rfl).setCellAt (i := 0 + 1) (x := .int .i32 0) (v := .int .i32 0) rfl (hBw hr2) rfl rfl
    have hmP : Mem (G2.view [(0, 65)]) [(0, .row .byte tab 133)] ((w'.drew.setCell ⟨B, 0, none⟩ (.int .u32 1)).setCell ⟨B, 0 + 1, none⟩ (.int .i32 0)) :=
      hr3.fin.mem.view (names := [(0, 65)]) rfl (fun m m' n h1 h2 => by
        cases m with
        | zero => cases m' with
          | zero => rfl
          | succ m' => cases h2
        | succ m => cases h1)
    have hcP := hP _ (G2.view [(0, 65)]) [.pointer (some ⟨g, 0, none⟩), .string ⟨s.toArray⟩] hmP ⟨⟨g, n3, c3, o3, by simp⟩, rfl, trivial⟩
    refine hcP.mono ?_
    intro e w4 hpost
    obtain ⟨G4, v, he, hr4⟩ := mem_rel hr3 (t := 1) (names := [(0, 65)]) (hpv := [(0, .row .byte tab 133)]) (hp := [(0, .row .byte tab 133)]) rfl rfl (show 1 < 4 by decide) rfl rfl ⟨rfl, trivial⟩ hpost
    obtain ⟨u, u1, u2⟩ := hr4.frame 1 _ rfl
    have u3 : u = v := by
      have hs := hr3.size
      have hlt : 1 < a2.tmps.size := by rw [hs]; exact (show 1 < 4 by decide)
      simp only [Act.put] at u1
      rw [Array.getElem?_setIfInBounds] at u1
      simp [hlt] at u1
      exact u1.symm
    subst u3
    obtain ⟨G5, k1, k2⟩ := finV_ok hr4 (ids := [(0, 0)]) (fun n bx h => by
      cases n with
      | zero => rfl
      | succ n => cases h) (v := .str out) (p := .h .str) (hp := [(0, .cells [.h (.int .u32), .h (.int .i32), .h (.int .u32), .iel 134 1 1, .u] 100), (1, .row .byte 133)]) (y := (out, (((1 : Int), ((0 : Int), (x2, ((), ((), ()))))), (tab', ())))) (by rfl)
    exact ⟨u, he, G5, k1.only hid, k2 u u2⟩
  · rintro e w4 ⟨v, rfl, G4, k1, k2⟩
    exact ⟨v, G4, rfl, k1, k2⟩
theorem F_repl_first_ok (fu : Nat) : (F_repl_first_ent (F_repl_first fu)).Sound Tryz.prog := fun d d' r hr =>
  ⟨Tryz.call48, F_repl_first_calls fu d.2.1 d'.1.1 d'.1.2.1 d'.1.2.2.1 d'.1.2.2.2.2.1 r hr⟩
theorem F_repl_later_calls (fu : Nat) (s : List UInt8) (p0 p1 p2 : Int) (tab : List UInt8) (r : List UInt8 × Int × Int × Int × List UInt8) (hr : F_repl_later fu s p0 p1 p2 tab = some r) :
    CallsTo Tryz.prog 48 [.ptr 0 0, .str s] [(0, .cells [.int .u32 p0, .int .i32 p1, .int .u32 p2, .iface 134 (.oel 1 1 0 0), .undef] 100), (1, .row .byte tab 133)] (.str r.1) [(0, .cells [.int .u32 r.2.1, .int .i32 r.2.2.1, .int .u32 r.2.2.2.1, .iface 134 (.oel 1 1 0 0), .undef] 100), (1, .row .byte r.2.2.2.2 133)] := by
  unfold F_repl_later at hr
  cases hc : !decide (p0 = 0) <;> rw [hc] at hr <;> simp only [cond_true, cond_false, reduceCtorEq] at hr
  simp only [Bool.not_eq_true', decide_eq_false_iff_not] at hc
  obtain ⟨y, hy, hr⟩ := Option.bind_eq_some_iff.1 hr
  obtain ⟨out, tab'⟩ := y
  simp only [Option.some.injEq] at hr
  subst hr
  have hP : CallsTo Tryz.prog 170 [.oel 0 1 0 0, .str s] [(0, .row .byte tab 133)] (.str out) [(0, .row .byte tab' 133)] :=
    (F_strings_byteReplacer_Replace_ok fu ((), (s, ())) (tab, ()) (out, tab') hy).2
  intro w G vs hm hv
  let hp0 : List (Nat × Box) := [(0, .cells [.int .u32 p0, .int .i32 p1, .int .u32 p2, .iface 134 (.oel 1 1 0 0), .undef] 100), (1, .row .byte tab 133)]
  show Calls _ _ _ _ (Post w G hp0 (.str out) [(0, .cells [.int .u32 p0, .int .i32 p1, .int .u32 p2, .iface 134 (.oel 1 1 0 0), .undef] 100), (1, .row .byte tab' 133)])
  have hm : Mem G hp0 w := hm
  have hv : Reps [.ptr 0 0, .str s] G vs := hv
  match vs, hv with
  | [v1, v2], hv =>
  obtain ⟨⟨B, hGB, rfl⟩, rfl, _⟩ := hv
  have hid : ∀ n b, look hp0 n = some b → rho [(0, 0), (1, 1)] n = some n ∧ renB (rho [(0, 0), (1, 1)]) b = b := by
    intro n b h
    match n, h with
    | 0, h => cases h; exact ⟨rfl, rfl⟩
    | 1, h => cases h; exact ⟨rfl, rfl⟩
    | n + 2, h => cases h
  have hr0 := Rel.start (N := [(0, 0), (1, 1)]) hm hid (fun n h => by
    match n, h with
    | 0, h => cases h
    | 1, h => cases h
    | n + 2, h => rfl) 4
  have hGB0 : (G.view [(0, 0), (1, 1)]).box 0 = some B := hGB
  obtain ⟨c0, e0, r0, _⟩ := hr0.cellAt (i := 0) rfl hGB0 rfl
  have r0 : c0 = .int .u32 p0 := r0
  subst r0
  obtain ⟨d3, f3, q3, _⟩ := hr0.cellAt (i := 3) rfl hGB0 rfl
  obtain ⟨u3, rfl, g, n3, c3, o3, rfl⟩ := q3
  have hmP : Mem ((G.view [(0, 0), (1, 1)]).view [(0, 1)]) [(0, .row .byte tab 133)] w :=
    hr0.fin.mem.view (names := [(0, 1)]) rfl (fun m m' n h1 h2 => by
      cases m with
      | zero => cases m' with
        | zero => rfl
        | succ m' => cases h2
      | succ m => cases h1)
  have hcP := hP w ((G.view [(0, 0), (1, 1)]).view [(0, 1)]) [.pointer (some ⟨g, 0, none⟩), .string ⟨s.toArray⟩] hmP ⟨⟨g, n3, c3, o3, by simp⟩, rfl, trivial⟩
  refine (Go.Proofs.YtojpbgaccmkggaaGreatDoor.Once.replace_done B g ⟨s.toArray⟩ w (fun v w' => ∃ G4, Fin w G hp0 G4 [(0, .cells [.int .u32 p0, .int .i32 p1, .int .u32 p2, .iface 134 (.oel 1 1 0 0), .undef] 100), (1, .row .byte tab' 133)] w' ∧ Rep (.str out) G4 v) p0 hc e0 (by simpa using f3) ?_).mono ?_
  · refine hcP.mono ?_
    intro e w4 hpost
    obtain ⟨G4, v, he, hr4⟩ := mem_rel hr0 (t := 1) (names := [(0, 1)]) (hpv := [(0, .row .byte tab 133)]) (hp := [(0, .row .byte tab 133)]) rfl rfl (show 1 < 4 by decide) rfl rfl ⟨rfl, trivial⟩ hpost
    obtain ⟨u, u1, u2⟩ := hr4.frame 1 _ rfl
    have u3 : u = v := by simpa [Act.put] using u1.symm
    subst u3
    obtain ⟨G5, k1, k2⟩ := finV_ok hr4 (ids := [(0, 0), (1, 1)]) (fun n bx h => by
      match n, h with
      | 0, h => rfl
      | 1, h => rfl
      | n + 2, h => cases h) (v := .str out) (p := .h .str) (hp := [(0, .cells [.h (.int .u32), .h (.int .i32), .h (.int .u32), .iel 134 1 1, .u] 100), (1, .row .byte 133)]) (y := (out, ((p0, (p1, (p2, ((), ((), ()))))), (tab', ())))) (by rfl)
    exact ⟨u, he, G5, k1.only hid, k2 u u2⟩
  · rintro e w4 ⟨v, rfl, G4, k1, k2⟩
    exact ⟨v, G4, rfl, k1, k2⟩
theorem F_repl_later_ok (fu : Nat) : (F_repl_later_ent (F_repl_later fu)).Sound Tryz.prog := fun d d' r hr =>
  ⟨Tryz.call48, F_repl_later_calls fu d.2.1 d'.1.1 d'.1.2.1 d'.1.2.2.1 d'.2.1 r hr⟩

/- strings.trimLeftByte -/
def F_strings_trimLeftByte_out : RS ((List UInt8)) := .one (α := (List UInt8)) (.h .str) [] (fun r => (r, ())) (fun y => y.1) (fun _ => rfl)
def F_strings_trimLeftByte_hp : List (Nat × BPt) := []
def F_strings_trimLeftByte_args : List Pt := [.h .str, .h .byte]
def F_strings_trimLeftByte_ent (r : (List UInt8) → UInt8 → Option ((List UInt8))) : Ent := { key := .fn 69, args := F_strings_trimLeftByte_args, hp := F_strings_trimLeftByte_hp, R := ((List UInt8)), F := fun d _ => r d.1 d.2.1, out := F_strings_trimLeftByte_out }
noncomputable def F_strings_trimLeftByte_cx (fu : Nat) : Cx := { P := Tryz.prog, tb := ⟨[], etys, false⟩, fn := Tryz.f69, f := 69, ids := idsB F_strings_trimLeftByte_hp, rd := none, tags := [] }
theorem F_strings_trimLeftByte_cxok (fu : Nat) : (F_strings_trimLeftByte_cx fu).Ok (bodyOf Tryz.f69) := ⟨ents0, Tryz_mixed, Tryz.func69, tags0⟩
def F_strings_trimLeftByte_l0 (r : (List UInt8) → UInt8 → Option ((List UInt8))) : Lab ((List UInt8)) := ⟨[(0, [0, 0, 0, 0, 0, 1]), (0, [1, 0, 0, 0, 0, 1]), (0, [1, 0, 0, 0, 1]), (2, [0, 0, 1]), (1, [0, 1]), (0, [1, 1])], ⟨17, [(0, .h .str), (1, .h .byte)], [], 64, []⟩, fun d => r d.1.1 d.1.2.1⟩
theorem F_strings_trimLeftByte_b0_ok (fu : Nat) (d' : bden F_strings_trimLeftByte_hp) (r0 : (List UInt8) → UInt8 → Option ((List UInt8))) (h0 : LabOk (F_strings_trimLeftByte_cx fu) (bput F_strings_trimLeftByte_hp d') F_strings_trimLeftByte_out (bodyOf Tryz.f69) (F_strings_trimLeftByte_l0 r0)) : LabOk (F_strings_trimLeftByte_cx fu) (bput F_strings_trimLeftByte_hp d') F_strings_trimLeftByte_out (bodyOf Tryz.f69) (F_strings_trimLeftByte_l0 (F_strings_trimLeftByte_b0 fu r0)) :=
  LabOk.of_run (labs := [F_strings_trimLeftByte_l0 (r0)]) (F_strings_trimLeftByte_cxok fu) (fun _ _ h => idsB_look h) (labs1 h0 labs0) (fun d => by kernel_rfl)
theorem F_strings_trimLeftByte_p0_ok (fu : Nat) (d' : bden F_strings_trimLeftByte_hp) : ∀ n, LabOk (F_strings_trimLeftByte_cx fu) (bput F_strings_trimLeftByte_hp d') F_strings_trimLeftByte_out (bodyOf Tryz.f69) (F_strings_trimLeftByte_l0 (F_strings_trimLeftByte_p0 fu n))
  | 0 => fun _ _ h => by cases h
  | n + 1 => F_strings_trimLeftByte_b0_ok fu d' (F_strings_trimLeftByte_p0 fu n) (F_strings_trimLeftByte_p0_ok fu d' n)
theorem F_strings_trimLeftByte_ok (fu : Nat) : (F_strings_trimLeftByte_ent (F_strings_trimLeftByte fu)).Sound Tryz.prog :=
  Ent.sound_fn (cx := F_strings_trimLeftByte_cx fu) (labs := [F_strings_trimLeftByte_l0 (F_strings_trimLeftByte_p0 fu fu)]) (F_strings_trimLeftByte_cxok fu) rfl rfl rfl rfl Tryz.call69 (by kernel_rfl) (fun d' => (labs1 (F_strings_trimLeftByte_p0_ok fu d' fu) labs0)) (fun d d' => by kernel_rfl)
/- strings.trimLeftASCII -/
def F_strings_trimLeftASCII_out : RS ((List UInt8) × (List Bool)) := .one (α := (List UInt8) × (List Bool)) (.h .str) [(0, .row .bool 103)] (fun r => (r.1, (r.2, ()))) (fun y => (y.1, y.2.1)) (fun _ => rfl)
def F_strings_trimLeftASCII_hp : List (Nat × BPt) := [(0, .row .bool 103)]
def F_strings_trimLeftASCII_args : List Pt := [.h .str, .el 0 1]
def F_strings_trimLeftASCII_ent (r : (List UInt8) → (List Bool) → Option ((List UInt8) × (List Bool))) : Ent := { key := .fn 72, args := F_strings_trimLeftASCII_args, hp := F_strings_trimLeftASCII_hp, R := ((List UInt8) × (List Bool)), F := fun d d' => r d.1 d'.1, out := F_strings_trimLeftASCII_out }
noncomputable def F_strings_trimLeftASCII_cx (fu : Nat) : Cx := { P := Tryz.prog, tb := ⟨[F_strings_asciiSet_contains_ent F_strings_asciiSet_contains], etys, false⟩, fn := Tryz.f72, f := 72, ids := idsB F_strings_trimLeftASCII_hp, rd := none, tags := [] }
theorem F_strings_trimLeftASCII_cxok (fu : Nat) : (F_strings_trimLeftASCII_cx fu).Ok (bodyOf Tryz.f72) := ⟨(ents1 F_strings_asciiSet_contains_ok ents0), Tryz_mixed, Tryz.func72, tags0⟩
def F_strings_trimLeftASCII_l0 (r : (List UInt8) → (List Bool) → Option ((List UInt8) × (List Bool))) : Lab ((List UInt8) × (List Bool)) := ⟨[(0, [0, 0, 0, 0, 0, 1]), (0, [1, 0, 0, 0, 0, 1]), (0, [1, 0, 0, 0, 1]), (2, [0, 0, 1]), (1, [0, 1]), (0, [1, 1])], ⟨16, [(0, .h .str), (1, .el 0 1)], [(0, .row .bool 103)], 64, []⟩, fun d => r d.1.1 d.2.1⟩
theorem F_strings_trimLeftASCII_b0_ok (fu : Nat) (d' : bden F_strings_trimLeftASCII_hp) (r0 : (List UInt8) → (List Bool) → Option ((List UInt8) × (List Bool))) (h0 : LabOk (F_strings_trimLeftASCII_cx fu) (bput F_strings_trimLeftASCII_hp d') F_strings_trimLeftASCII_out (bodyOf Tryz.f72) (F_strings_trimLeftASCII_l0 r0)) : LabOk (F_strings_trimLeftASCII_cx fu) (bput F_strings_trimLeftASCII_hp d') F_strings_trimLeftASCII_out (bodyOf Tryz.f72) (F_strings_trimLeftASCII_l0 (F_strings_trimLeftASCII_b0 fu r0)) :=
  LabOk.of_run (labs := [F_strings_trimLeftASCII_l0 (r0)]) (F_strings_trimLeftASCII_cxok fu) (fun _ _ h => idsB_look h) (labs1 h0 labs0) (fun d => by kernel_rfl)
theorem F_strings_trimLeftASCII_p0_ok (fu : Nat) (d' : bden F_strings_trimLeftASCII_hp) : ∀ n, LabOk (F_strings_trimLeftASCII_cx fu) (bput F_strings_trimLeftASCII_hp d') F_strings_trimLeftASCII_out (bodyOf Tryz.f72) (F_strings_trimLeftASCII_l0 (F_strings_trimLeftASCII_p0 fu n))
  | 0 => fun _ _ h => by cases h
  | n + 1 => F_strings_trimLeftASCII_b0_ok fu d' (F_strings_trimLeftASCII_p0 fu n) (F_strings_trimLeftASCII_p0_ok fu d' n)
theorem F_strings_trimLeftASCII_ok (fu : Nat) : (F_strings_trimLeftASCII_ent (F_strings_trimLeftASCII fu)).Sound Tryz.prog :=
  Ent.sound_fn (cx := F_strings_trimLeftASCII_cx fu) (labs := [F_strings_trimLeftASCII_l0 (F_strings_trimLeftASCII_p0 fu fu)]) (F_strings_trimLeftASCII_cxok fu) rfl rfl rfl rfl Tryz.call72 (by kernel_rfl) (fun d' => (labs1 (F_strings_trimLeftASCII_p0_ok fu d' fu) labs0)) (fun d d' => by kernel_rfl)
end Go.Sym
/- The Go functions compute the plain functions: printed by a program; each is reckoned by the kernel. -/
namespace Go.Sym
open Go.Proofs
set_option linter.unusedVariables false
set_option maxRecDepth 100000
/- strings.trimLeftUnicode -/
def F_strings_trimLeftUnicode_out : RS ((List UInt8)) := .one (α := (List UInt8)) (.h .str) [] (fun r => (r, ())) (fun y => y.1) (fun _ => rfl)
def F_strings_trimLeftUnicode_hp : List (Nat × BPt) := []
def F_strings_trimLeftUnicode_args : List Pt := [.h .str, .h .str]
def F_strings_trimLeftUnicode_ent (r : (List UInt8) → (List UInt8) → Option ((List UInt8))) : Ent := { key := .fn 74, args := F_strings_trimLeftUnicode_args, hp := F_strings_trimLeftUnicode_hp, R := ((List UInt8)), F := fun d _ => r d.1 d.2.1, out := F_strings_trimLeftUnicode_out }
noncomputable def F_strings_trimLeftUnicode_cx (fu : Nat) : Cx := { P := Tryz.prog, tb := ⟨[F_unicode_utf8_DecodeRuneInString_ent F_unicode_utf8_DecodeRuneInString, F_strings_ContainsRune_ent (F_strings_ContainsRune fu)], etys, false⟩, fn := Tryz.f74, f := 74, ids := idsB F_strings_trimLeftUnicode_hp, rd := none, tags := [] }
theorem F_strings_trimLeftUnicode_cxok (fu : Nat) : (F_strings_trimLeftUnicode_cx fu).Ok (bodyOf Tryz.f74) := ⟨(ents1 F_unicode_utf8_DecodeRuneInString_ok (ents1 (F_strings_ContainsRune_ok fu) ents0)), Tryz_mixed, Tryz.func74, tags0⟩
def F_strings_trimLeftUnicode_l0 (r : (List UInt8) → (List UInt8) → Option ((List UInt8))) : Lab ((List UInt8)) := ⟨[(0, [0, 0, 0, 0, 0, 1]), (0, [1, 0, 0, 0, 0, 1]), (0, [1, 0, 0, 0, 1]), (2, [0, 0, 1]), (1, [0, 1]), (0, [1, 1])], ⟨23, [(0, .h .str), (1, .h .str)], [], 64, []⟩, fun d => r d.1.1 d.1.2.1⟩
theorem F_strings_trimLeftUnicode_b0_ok (fu : Nat) (d' : bden F_strings_trimLeftUnicode_hp) (r0 : (List UInt8) → (List UInt8) → Option ((List UInt8))) (h0 : LabOk (F_strings_trimLeftUnicode_cx fu) (bput F_strings_trimLeftUnicode_hp d') F_strings_trimLeftUnicode_out (bodyOf Tryz.f74) (F_strings_trimLeftUnicode_l0 r0)) : LabOk (F_strings_trimLeftUnicode_cx fu) (bput F_strings_trimLeftUnicode_hp d') F_strings_trimLeftUnicode_out (bodyOf Tryz.f74) (F_strings_trimLeftUnicode_l0 (F_strings_trimLeftUnicode_b0 fu r0)) :=
  LabOk.of_run (labs := [F_strings_trimLeftUnicode_l0 (r0)]) (F_strings_trimLeftUnicode_cxok fu) (fun _ _ h => idsB_look h) (labs1 h0 labs0) (fun d => by kernel_rfl)
theorem F_strings_trimLeftUnicode_p0_ok (fu : Nat) (d' : bden F_strings_trimLeftUnicode_hp) : ∀ n, LabOk (F_strings_trimLeftUnicode_cx fu) (bput F_strings_trimLeftUnicode_hp d') F_strings_trimLeftUnicode_out (bodyOf Tryz.f74) (F_strings_trimLeftUnicode_l0 (F_strings_trimLeftUnicode_p0 fu n))
  | 0 => fun _ _ h => by cases h
  | n + 1 => F_strings_trimLeftUnicode_b0_ok fu d' (F_strings_trimLeftUnicode_p0 fu n) (F_strings_trimLeftUnicode_p0_ok fu d' n)
theorem F_strings_trimLeftUnicode_ok (fu : Nat) : (F_strings_trimLeftUnicode_ent (F_strings_trimLeftUnicode fu)).Sound Tryz.prog :=
  Ent.sound_fn (cx := F_strings_trimLeftUnicode_cx fu) (labs := [F_strings_trimLeftUnicode_l0 (F_strings_trimLeftUnicode_p0 fu fu)]) (F_strings_trimLeftUnicode_cxok fu) rfl rfl rfl rfl Tryz.call74 (by kernel_rfl) (fun d' => (labs1 (F_strings_trimLeftUnicode_p0_ok fu d' fu) labs0)) (fun d d' => by kernel_rfl)
/- strings.Trim -/
def F_strings_Trim_out : RS ((List UInt8)) := .one (α := (List UInt8)) (.h .str) [] (fun r => (r, ())) (fun y => y.1) (fun _ => rfl)
def F_strings_Trim_hp : List (Nat × BPt) := []
def F_strings_Trim_args : List Pt := [.h .str, .h .str]
def F_strings_Trim_ent (r : (List UInt8) → (List UInt8) → Option ((List UInt8))) : Ent := { key := .fn 47, args := F_strings_Trim_args, hp := F_strings_Trim_hp, R := ((List UInt8)), F := fun d _ => r d.1 d.2.1, out := F_strings_Trim_out }
noncomputable def F_strings_Trim_cx (fu : Nat) : Cx := { P := Tryz.prog, tb := ⟨[F_strings_trimRightByte_ent (F_strings_trimRightByte fu), F_strings_trimLeftByte_ent (F_strings_trimLeftByte fu), F_strings_makeASCIISet_ent (F_strings_makeASCIISet fu), F_strings_trimRightASCII_ent (F_strings_trimRightASCII fu), F_strings_trimLeftASCII_ent (F_strings_trimLeftASCII fu), F_strings_trimRightUnicode_ent (F_strings_trimRightUnicode fu), F_strings_trimLeftUnicode_ent (F_strings_trimLeftUnicode fu)], etys, false⟩, fn := Tryz.f47, f := 47, ids := idsB F_strings_Trim_hp, rd := none, tags := [] }
theorem F_strings_Trim_cxok (fu : Nat) : (F_strings_Trim_cx fu).Ok (bodyOf Tryz.f47) := ⟨(ents1 (F_strings_trimRightByte_ok fu) (ents1 (F_strings_trimLeftByte_ok fu) (ents1 (F_strings_makeASCIISet_ok fu) (ents1 (F_strings_trimRightASCII_ok fu) (ents1 (F_strings_trimLeftASCII_ok fu) (ents1 (F_strings_trimRightUnicode_ok fu) (ents1 (F_strings_trimLeftUnicode_ok fu) ents0))))))), Tryz_mixed, Tryz.func47, tags0⟩
def F_strings_Trim_l3 (r : (List UInt8) → (List UInt8) → Option ((List UInt8))) : Lab ((List UInt8)) := ⟨[(0, [0, 0, 1, 1, 1]), (0, [1, 0, 1, 1, 1]), (0, [1, 1, 1, 1])], ⟨43, [(0, .h .str), (1, .h .str)], [], 64, []⟩, fun d => r d.1.1 d.1.2.1⟩
def F_strings_Trim_l2 (r : (List UInt8) → (List UInt8) → Bool → Option ((List UInt8))) : Lab ((List UInt8)) := ⟨[(0, [1, 0, 1, 1]), (0, [1, 1, 1])], ⟨43, [(0, .h .str), (1, .h .str), (21, .h .bool)], [], 64, []⟩, fun d => r d.1.1 d.1.2.1 d.1.2.2.1⟩
def F_strings_Trim_l1 (r : (List UInt8) → (List UInt8) → Option ((List UInt8))) : Lab ((List UInt8)) := ⟨[(0, [0, 0, 1, 1]), (0, [1, 0, 1, 1]), (0, [1, 1, 1])], ⟨43, [(0, .h .str), (1, .h .str)], [], 64, []⟩, fun d => r d.1.1 d.1.2.1⟩
def F_strings_Trim_l0 (r : (List UInt8) → (List UInt8) → Bool → Option ((List UInt8))) : Lab ((List UInt8)) := ⟨[(0, [1, 0, 1]), (0, [1, 1])], ⟨43, [(0, .h .str), (1, .h .str), (12, .h .bool)], [], 64, []⟩, fun d => r d.1.1 d.1.2.1 d.1.2.2.1⟩
theorem F_strings_Trim_p3_ok (fu : Nat) (d' : bden F_strings_Trim_hp) : LabOk (F_strings_Trim_cx fu) (bput F_strings_Trim_hp d') F_strings_Trim_out (bodyOf Tryz.f47) (F_strings_Trim_l3 (F_strings_Trim_p3 fu)) :=
  LabOk.of_run (labs := []) (F_strings_Trim_cxok fu) (fun _ _ h => idsB_look h) labs0 (fun d => by kernel_rfl)
theorem F_strings_Trim_p2_ok (fu : Nat) (d' : bden F_strings_Trim_hp) : LabOk (F_strings_Trim_cx fu) (bput F_strings_Trim_hp d') F_strings_Trim_out (bodyOf Tryz.f47) (F_strings_Trim_l2 (F_strings_Trim_p2 fu)) :=
  LabOk.of_run (labs := [F_strings_Trim_l3 (F_strings_Trim_p3 fu)]) (F_strings_Trim_cxok fu) (fun _ _ h => idsB_look h) (labs1 (F_strings_Trim_p3_ok fu d') labs0) (fun d => by kernel_rfl)
theorem F_strings_Trim_p1_ok (fu : Nat) (d' : bden F_strings_Trim_hp) : LabOk (F_strings_Trim_cx fu) (bput F_strings_Trim_hp d') F_strings_Trim_out (bodyOf Tryz.f47) (F_strings_Trim_l1 (F_strings_Trim_p1 fu)) :=
  LabOk.of_run (labs := [F_strings_Trim_l2 (F_strings_Trim_p2 fu)]) (F_strings_Trim_cxok fu) (fun _ _ h => idsB_look h) (labs1 (F_strings_Trim_p2_ok fu d') labs0) (fun d => by kernel_rfl)
theorem F_strings_Trim_p0_ok (fu : Nat) (d' : bden F_strings_Trim_hp) : LabOk (F_strings_Trim_cx fu) (bput F_strings_Trim_hp d') F_strings_Trim_out (bodyOf Tryz.f47) (F_strings_Trim_l0 (F_strings_Trim_p0 fu)) :=
  LabOk.of_run (labs := [F_strings_Trim_l1 (F_strings_Trim_p1 fu)]) (F_strings_Trim_cxok fu) (fun _ _ h => idsB_look h) (labs1 (F_strings_Trim_p1_ok fu d') labs0) (fun d => by kernel_rfl)
theorem F_strings_Trim_ok (fu : Nat) : (F_strings_Trim_ent (F_strings_Trim fu)).Sound Tryz.prog :=
  Ent.sound_fn (cx := F_strings_Trim_cx fu) (labs := [F_strings_Trim_l0 (F_strings_Trim_p0 fu)]) (F_strings_Trim_cxok fu) rfl rfl rfl rfl Tryz.call47 (by kernel_rfl) (fun d' => (labs1 (F_strings_Trim_p0_ok fu d') labs0)) (fun d d' => by kernel_rfl)
/- posthouse/header.Read -/
def F_header_Read_out : RS R_header_Read := .one (α := Int × (Int × Int) × (List ((List UInt8) × (List UInt8)))) (.tup [.own 0, .h (.int .i64), .h (.prod (.int .i64) (.int .i64))]) [(0, .row (.prod .str .str) 47)] (fun r => (((), (r.1, (r.2.1, ()))), (r.2.2, ()))) (fun y => (y.1.2.1, y.1.2.2.1, y.2.1)) (fun _ => rfl)
def F_header_Read_hp : List (Nat × BPt) := []
def F_header_Read_args : List Pt := [.h (.list .byte)]
def F_header_Read_ent (r : (List UInt8) → Option R_header_Read) : Ent := { key := .fn 21, args := F_header_Read_args, hp := F_header_Read_hp, R := R_header_Read, F := fun d _ => r d.1, out := F_header_Read_out }
noncomputable def F_header_Read_cx (fu : Nat) : Cx := { P := Tryz.prog, tb := ⟨[F_basic_Fault_ent F_basic_Fault, F_header_line_ent F_header_line, F_basic_Blank_ent F_basic_Blank, F_strings_NewReplacer_ent F_strings_NewReplacer, F_repl_first_ent (F_repl_first fu), F_strings_Trim_ent (F_strings_Trim fu), F_basic_None_ent F_basic_None, F_header_begins_ent (F_header_begins fu), F_repl_later_ent (F_repl_later fu)], etys, false⟩, fn := Tryz.f21, f := 21, ids := idsB F_header_Read_hp, rd := none, tags := [] }
theorem F_header_Read_cxok (fu : Nat) : (F_header_Read_cx fu).Ok (bodyOf Tryz.f21) := ⟨(ents1 F_basic_Fault_ok (ents1 F_header_line_ok (ents1 F_basic_Blank_ok (ents1 F_strings_NewReplacer_ok (ents1 (F_repl_first_ok fu) (ents1 (F_strings_Trim_ok fu) (ents1 F_basic_None_ok (ents1 (F_header_begins_ok fu) (ents1 (F_repl_later_ok fu) ents0))))))))), Tryz_mixed, Tryz.func21, tags0⟩
def F_header_Read_l5 (r : Int → Int → Int → (Int × Int) → (List ((List UInt8) × (List UInt8))) → Int → Int → Int → (List UInt8) → Option R_header_Read) : Lab R_header_Read := ⟨[(0, [0, 0, 0, 1, 0, 1, 1, 1, 1, 1, 1, 1]), (0, [1, 0, 0, 1, 0, 1, 1, 1, 1, 1, 1, 1]), (2, [0, 1, 0, 1, 1, 1, 1, 1, 1, 1]), (1, [1, 0, 1, 1, 1, 1, 1, 1, 1]), (0, [1, 1, 1, 1, 1, 1, 1, 1])], ⟨103, [(4, .ptr 16 0), (5, .own 17), (6, .h (.int .i64)), (11, .ptr 18 0), (77, .h (.int .i64)), (78, .h (.int .i64))], [(16, .dat (.prod (.int .i64) (.int .i64)) 28), (17, .row (.prod .str .str) 47), (18, .cells [.h (.int .u32), .h (.int .i32), .h (.int .u32), .iel 134 19 1, .u] 100), (19, .row .byte 133)], 64, []⟩, fun d => r d.1.2.2.1 d.1.2.2.2.2.1 d.1.2.2.2.2.2.1 d.2.1 d.2.2.1 d.2.2.2.1.1 d.2.2.2.1.2.1 d.2.2.2.1.2.2.1 d.2.2.2.2.1⟩
def F_header_Read_l3 (r : Int → Int → (Int × Int) → Int → Int → Int → (List (List UInt8)) → (List ((List UInt8) × (List UInt8))) → Option R_header_Read) : Lab R_header_Read := ⟨[(0, [0, 0, 0, 1, 0, 1, 1, 1, 1, 1, 1, 1]), (0, [1, 0, 0, 1, 0, 1, 1, 1, 1, 1, 1, 1]), (2, [0, 1, 0, 1, 1, 1, 1, 1, 1, 1]), (1, [1, 0, 1, 1, 1, 1, 1, 1, 1]), (0, [1, 1, 1, 1, 1, 1, 1, 1])], ⟨103, [(4, .ptr 16 0), (5, .own 19), (6, .h (.int .i64)), (11, .ptr 17 0), (77, .h (.int .i64)), (78, .c (.int .i64 0))], [(16, .dat (.prod (.int .i64) (.int .i64)) 28), (17, .cells [.h (.int .u32), .h (.int .i32), .h (.int .u32), .c .nilIface, .own 18] 100), (18, .row .str 9), (19, .row (.prod .str .str) 47)], 64, []⟩, fun d => r d.1.2.2.1 d.1.2.2.2.2.1 d.2.1 d.2.2.1.1 d.2.2.1.2.1 d.2.2.1.2.2.1 d.2.2.2.1 d.2.2.2.2.1⟩
def F_header_Read_l1 (r : Int → (Int × Int) → (List ((List UInt8) × (List UInt8))) → Option R_header_Read) : Lab R_header_Read := ⟨[(0, [0, 0, 1, 1, 1, 1, 1]), (0, [1, 0, 1, 1, 1, 1, 1]), (0, [1, 1, 1, 1, 1, 1])], ⟨103, [(4, .ptr 16 0), (5, .own 17), (6, .h (.int .i64))], [(16, .dat (.prod (.int .i64) (.int .i64)) 28), (17, .row (.prod .str .str) 47)], 64, []⟩, fun d => r d.1.2.2.1 d.2.1 d.2.2.1⟩
def F_header_Read_l4 (r : (List UInt8) → Int → (List UInt8) → Int → (Int × Int) → (List ((List UInt8) × (List UInt8))) → Option R_header_Read) : Lab R_header_Read := ⟨[(0, [0, 1, 1, 1, 0, 1, 0, 0, 0, 1, 1, 1, 1]), (0, [1, 1, 1, 1, 0, 1, 0, 0, 0, 1, 1, 1, 1]), (1, [1, 0, 0, 0, 1, 1, 1, 1]), (2, [0, 0, 1, 1, 1, 1]), (1, [0, 1, 1, 1, 1]), (0, [1, 1, 1, 1, 1])], ⟨103, [(0, .h (.list .byte)), (4, .ptr 16 0), (5, .own 17), (6, .h (.int .i64)), (7, .h .str), (8, .h (.int .i64))], [(16, .dat (.prod (.int .i64) (.int .i64)) 28), (17, .row (.prod .str .str) 47)], 64, []⟩, fun d => r d.1.1 d.1.2.2.2.1 d.1.2.2.2.2.1 d.1.2.2.2.2.2.1 d.2.1 d.2.2.1⟩
def F_header_Read_l2 (r : (List UInt8) → Int → (List UInt8) → Int → Bool → (Int × Int) → (List ((List UInt8) × (List UInt8))) → Option R_header_Read) : Lab R_header_Read := ⟨[(0, [1, 0, 1, 1, 0, 1, 0, 0, 0, 1, 1, 1, 1]), (0, [1, 1, 1, 0, 1, 0, 0, 0, 1, 1, 1, 1]), (1, [1, 0, 0, 0, 1, 1, 1, 1]), (2, [0, 0, 1, 1, 1, 1]), (1, [0, 1, 1, 1, 1]), (0, [1, 1, 1, 1, 1])], ⟨103, [(0, .h (.list .byte)), (4, .ptr 16 0), (5, .own 17), (6, .h (.int .i64)), (7, .h .str), (8, .h (.int .i64)), (41, .h .bool)], [(16, .dat (.prod (.int .i64) (.int .i64)) 28), (17, .row (.prod .str .str) 47)], 64, []⟩, fun d => r d.1.1 d.1.2.2.2.1 d.1.2.2.2.2.1 d.1.2.2.2.2.2.1 d.1.2.2.2.2.2.2.1 d.2.1 d.2.2.1⟩
def F_header_Read_l0 (r : (List UInt8) → Int → (Int × Int) → (List ((List UInt8) × (List UInt8))) → Option R_header_Read) : Lab R_header_Read := ⟨[(0, [0, 0, 0, 0, 0, 1, 1, 1, 1]), (0, [1, 0, 0, 0, 0, 1, 1, 1, 1]), (0, [1, 0, 0, 0, 1, 1, 1, 1]), (2, [0, 0, 1, 1, 1, 1]), (1, [0, 1, 1, 1, 1]), (0, [1, 1, 1, 1, 1])], ⟨103, [(0, .h (.list .byte)), (4, .ptr 16 0), (5, .own 17), (6, .h (.int .i64))], [(16, .dat (.prod (.int .i64) (.int .i64)) 28), (17, .row (.prod .str .str) 47)], 64, []⟩, fun d => r d.1.1 d.1.2.2.2.1 d.2.1 d.2.2.1⟩
theorem F_header_Read_b5_ok (fu : Nat) (d' : bden F_header_Read_hp) (r5 : Int → Int → Int → (Int × Int) → (List ((List UInt8) × (List UInt8))) → Int → Int → Int → (List UInt8) → Option R_header_Read) (h5 : LabOk (F_header_Read_cx fu) (bput F_header_Read_hp d') F_header_Read_out (bodyOf Tryz.f21) (F_header_Read_l5 r5)) : LabOk (F_header_Read_cx fu) (bput F_header_Read_hp d') F_header_Read_out (bodyOf Tryz.f21) (F_header_Read_l5 (F_header_Read_b5 fu r5)) :=
  LabOk.of_run (labs := [F_header_Read_l5 (r5)]) (F_header_Read_cxok fu) (fun _ _ h => idsB_look h) (labs1 h5 labs0) (fun d => by kernel_rfl)
theorem F_header_Read_p5_ok (fu : Nat) (d' : bden F_header_Read_hp) : ∀ n, LabOk (F_header_Read_cx fu) (bput F_header_Read_hp d') F_header_Read_out (bodyOf Tryz.f21) (F_header_Read_l5 (F_header_Read_p5 fu n))
  | 0 => fun _ _ h => by cases h
  | n + 1 => F_header_Read_b5_ok fu d' (F_header_Read_p5 fu n) (F_header_Read_p5_ok fu d' n)
theorem F_header_Read_b3_ok (fu : Nat) (d' : bden F_header_Read_hp) (r3 : Int → Int → (Int × Int) → Int → Int → Int → (List (List UInt8)) → (List ((List UInt8) × (List UInt8))) → Option R_header_Read) (h3 : LabOk (F_header_Read_cx fu) (bput F_header_Read_hp d') F_header_Read_out (bodyOf Tryz.f21) (F_header_Read_l3 r3)) : LabOk (F_header_Read_cx fu) (bput F_header_Read_hp d') F_header_Read_out (bodyOf Tryz.f21) (F_header_Read_l3 (F_header_Read_b3 fu r3)) :=
  LabOk.of_run (labs := [F_header_Read_l5 (F_header_Read_p5 fu fu)]) (F_header_Read_cxok fu) (fun _ _ h => idsB_look h) (labs1 (F_header_Read_p5_ok fu d' fu) labs0) (fun d => by kernel_rfl)
theorem F_header_Read_p3_ok (fu : Nat) (d' : bden F_header_Read_hp) : ∀ n, LabOk (F_header_Read_cx fu) (bput F_header_Read_hp d') F_header_Read_out (bodyOf Tryz.f21) (F_header_Read_l3 (F_header_Read_p3 fu n))
  | 0 => fun _ _ h => by cases h
  | n + 1 => F_header_Read_b3_ok fu d' (F_header_Read_p3 fu n) (F_header_Read_p3_ok fu d' n)
theorem F_header_Read_p1_ok (fu : Nat) (d' : bden F_header_Read_hp) : LabOk (F_header_Read_cx fu) (bput F_header_Read_hp d') F_header_Read_out (bodyOf Tryz.f21) (F_header_Read_l1 (F_header_Read_p1 fu)) :=
  LabOk.of_run (labs := [F_header_Read_l3 (F_header_Read_p3 fu fu)]) (F_header_Read_cxok fu) (fun _ _ h => idsB_look h) (labs1 (F_header_Read_p3_ok fu d' fu) labs0) (fun d => by kernel_rfl)
theorem F_header_Read_p4_ok (fu : Nat) (d' : bden F_header_Read_hp) (r0 : (List UInt8) → Int → (Int × Int) → (List ((List UInt8) × (List UInt8))) → Option R_header_Read) (h0 : LabOk (F_header_Read_cx fu) (bput F_header_Read_hp d') F_header_Read_out (bodyOf Tryz.f21) (F_header_Read_l0 r0)) : LabOk (F_header_Read_cx fu) (bput F_header_Read_hp d') F_header_Read_out (bodyOf Tryz.f21) (F_header_Read_l4 (F_header_Read_p4 fu r0)) :=
  LabOk.of_run (labs := [F_header_Read_l1 (F_header_Read_p1 fu), F_header_Read_l0 (r0)]) (F_header_Read_cxok fu) (fun _ _ h => idsB_look h) (labs1 (F_header_Read_p1_ok fu d') (labs1 h0 labs0)) (fun d => by kernel_rfl)
theorem F_header_Read_p2_ok (fu : Nat) (d' : bden F_header_Read_hp) (r0 : (List UInt8) → Int → (Int × Int) → (List ((List UInt8) × (List UInt8))) → Option R_header_Read) (h0 : LabOk (F_header_Read_cx fu) (bput F_header_Read_hp d') F_header_Read_out (bodyOf Tryz.f21) (F_header_Read_l0 r0)) : LabOk (F_header_Read_cx fu) (bput F_header_Read_hp d') F_header_Read_out (bodyOf Tryz.f21) (F_header_Read_l2 (F_header_Read_p2 fu r0)) :=
  LabOk.of_run (labs := [F_header_Read_l0 (r0), F_header_Read_l4 (F_header_Read_p4 fu r0)]) (F_header_Read_cxok fu) (fun _ _ h => idsB_look h) (labs1 h0 (labs1 (F_header_Read_p4_ok fu d' r0 h0) labs0)) (fun d => by kernel_rfl)
theorem F_header_Read_b0_ok (fu : Nat) (d' : bden F_header_Read_hp) (r0 : (List UInt8) → Int → (Int × Int) → (List ((List UInt8) × (List UInt8))) → Option R_header_Read) (h0 : LabOk (F_header_Read_cx fu) (bput F_header_Read_hp d') F_header_Read_out (bodyOf Tryz.f21) (F_header_Read_l0 r0)) : LabOk (F_header_Read_cx fu) (bput F_header_Read_hp d') F_header_Read_out (bodyOf Tryz.f21) (F_header_Read_l0 (F_header_Read_b0 fu r0)) :=
  LabOk.of_run (labs := [F_header_Read_l1 (F_header_Read_p1 fu), F_header_Read_l2 (F_header_Read_p2 fu r0)]) (F_header_Read_cxok fu) (fun _ _ h => idsB_look h) (labs1 (F_header_Read_p1_ok fu d') (labs1 (F_header_Read_p2_ok fu d' r0 h0) labs0)) (fun d => by kernel_rfl)
theorem F_header_Read_p0_ok (fu : Nat) (d' : bden F_header_Read_hp) : ∀ n, LabOk (F_header_Read_cx fu) (bput F_header_Read_hp d') F_header_Read_out (bodyOf Tryz.f21) (F_header_Read_l0 (F_header_Read_p0 fu n))
  | 0 => fun _ _ h => by cases h
  | n + 1 => F_header_Read_b0_ok fu d' (F_header_Read_p0 fu n) (F_header_Read_p0_ok fu d' n)
theorem F_header_Read_ok (fu : Nat) : (F_header_Read_ent (F_header_Read fu)).Sound Tryz.prog :=
  Ent.sound_fn (cx := F_header_Read_cx fu) (labs := [F_header_Read_l0 (F_header_Read_p0 fu fu)]) (F_header_Read_cxok fu) rfl rfl rfl rfl Tryz.call21 (by kernel_rfl) (fun d' => (labs1 (F_header_Read_p0_ok fu d' fu) labs0)) (fun d d' => by kernel_rfl)
/- posthouse/message.lines -/
def F_message_lines_out : RS ((List UInt8)) := .one (α := (List UInt8)) (.own 0) [(0, .row .byte 5)] (fun r => ((), (r, ()))) (fun y => y.2.1) (fun _ => rfl)
def F_message_lines_hp : List (Nat × BPt) := []
def F_message_lines_args : List Pt := [.h (.list .byte)]
def F_message_lines_ent (r : (List UInt8) → Option ((List UInt8))) : Ent := { key := .fn 23, args := F_message_lines_args, hp := F_message_lines_hp, R := ((List UInt8)), F := fun d _ => r d.1, out := F_message_lines_out }
noncomputable def F_message_lines_cx (fu : Nat) : Cx := { P := Tryz.prog, tb := ⟨[], etys, false⟩, fn := Tryz.f23, f := 23, ids := idsB F_message_lines_hp, rd := none, tags := [] }
theorem F_message_lines_cxok (fu : Nat) : (F_message_lines_cx fu).Ok (bodyOf Tryz.f23) := ⟨ents0, Tryz_mixed, Tryz.func23, tags0⟩
def F_message_lines_l2 (r : (List UInt8) → Int → Bool → (List UInt8) → Option ((List UInt8))) : Lab ((List UInt8)) := ⟨[(0, [1, 1, 1, 0, 0, 0, 1, 0, 0, 1, 0, 1, 1]), (1, [0, 0, 1, 0, 0, 1, 0, 1, 1]), (1, [0, 1, 0, 0, 1, 0, 1, 1]), (0, [1, 1, 0, 0, 1, 0, 1, 1]), (2, [0, 1, 0, 1, 1]), (1, [1, 0, 1, 1]), (0, [1, 1, 1])], ⟨61, [(0, .h (.list .byte)), (3, .own 16), (4, .h (.int .i64)), (44, .h .bool)], [(16, .row .byte 5)], 64, []⟩, fun d => r d.1.1 d.1.2.2.1 d.1.2.2.2.1 d.2.1⟩
def F_message_lines_l1 (r : (List UInt8) → Int → Bool → (List UInt8) → Option ((List UInt8))) : Lab ((List UInt8)) := ⟨[(0, [1, 0, 0, 0, 1, 0, 0, 1, 0, 1, 1]), (1, [0, 0, 1, 0, 0, 1, 0, 1, 1]), (1, [0, 1, 0, 0, 1, 0, 1, 1]), (0, [1, 1, 0, 0, 1, 0, 1, 1]), (2, [0, 1, 0, 1, 1]), (1, [1, 0, 1, 1]), (0, [1, 1, 1])], ⟨61, [(0, .h (.list .byte)), (3, .own 16), (4, .h (.int .i64)), (18, .h .bool)], [(16, .row .byte 5)], 64, []⟩, fun d => r d.1.1 d.1.2.2.1 d.1.2.2.2.1 d.2.1⟩
def F_message_lines_l0 (r : (List UInt8) → Int → (List UInt8) → Option ((List UInt8))) : Lab ((List UInt8)) := ⟨[(0, [0, 0, 0, 0, 1, 0, 1, 1]), (0, [1, 0, 0, 0, 1, 0, 1, 1]), (0, [1, 0, 0, 1, 0, 1, 1]), (2, [0, 1, 0, 1, 1]), (1, [1, 0, 1, 1]), (0, [1, 1, 1])], ⟨61, [(0, .h (.list .byte)), (3, .own 16), (4, .h (.int .i64))], [(16, .row .byte 5)], 64, []⟩, fun d => r d.1.1 d.1.2.2.1 d.2.1⟩
theorem F_message_lines_p2_ok (fu : Nat) (d' : bden F_message_lines_hp) (r0 : (List UInt8) → Int → (List UInt8) → Option ((List UInt8))) (h0 : LabOk (F_message_lines_cx fu) (bput F_message_lines_hp d') F_message_lines_out (bodyOf Tryz.f23) (F_message_lines_l0 r0)) : LabOk (F_message_lines_cx fu) (bput F_message_lines_hp d') F_message_lines_out (bodyOf Tryz.f23) (F_message_lines_l2 (F_message_lines_p2 fu r0)) :=
  LabOk.of_run (labs := [F_message_lines_l0 (r0)]) (F_message_lines_cxok fu) (fun _ _ h => idsB_look h) (labs1 h0 labs0) (fun d => by kernel_rfl)
theorem F_message_lines_p1_ok (fu : Nat) (d' : bden F_message_lines_hp) (r0 : (List UInt8) → Int → (List UInt8) → Option ((List UInt8))) (h0 : LabOk (F_message_lines_cx fu) (bput F_message_lines_hp d') F_message_lines_out (bodyOf Tryz.f23) (F_message_lines_l0 r0)) : LabOk (F_message_lines_cx fu) (bput F_message_lines_hp d') F_message_lines_out (bodyOf Tryz.f23) (F_message_lines_l1 (F_message_lines_p1 fu r0)) :=
  LabOk.of_run (labs := [F_message_lines_l0 (r0), F_message_lines_l2 (F_message_lines_p2 fu r0)]) (F_message_lines_cxok fu) (fun _ _ h => idsB_look h) (labs1 h0 (labs1 (F_message_lines_p2_ok fu d' r0 h0) labs0)) (fun d => by kernel_rfl)
theorem F_message_lines_b0_ok (fu : Nat) (d' : bden F_message_lines_hp) (r0 : (List UInt8) → Int → (List UInt8) → Option ((List UInt8))) (h0 : LabOk (F_message_lines_cx fu) (bput F_message_lines_hp d') F_message_lines_out (bodyOf Tryz.f23) (F_message_lines_l0 r0)) : LabOk (F_message_lines_cx fu) (bput F_message_lines_hp d') F_message_lines_out (bodyOf Tryz.f23) (F_message_lines_l0 (F_message_lines_b0 fu r0)) :=
  LabOk.of_run (labs := [F_message_lines_l1 (F_message_lines_p1 fu r0)]) (F_message_lines_cxok fu) (fun _ _ h => idsB_look h) (labs1 (F_message_lines_p1_ok fu d' r0 h0) labs0) (fun d => by kernel_rfl)
theorem F_message_lines_p0_ok (fu : Nat) (d' : bden F_message_lines_hp) : ∀ n, LabOk (F_message_lines_cx fu) (bput F_message_lines_hp d') F_message_lines_out (bodyOf Tryz.f23) (F_message_lines_l0 (F_message_lines_p0 fu n))
  | 0 => fun _ _ h => by cases h
  | n + 1 => F_message_lines_b0_ok fu d' (F_message_lines_p0 fu n) (F_message_lines_p0_ok fu d' n)
theorem F_message_lines_ok (fu : Nat) : (F_message_lines_ent (F_message_lines fu)).Sound Tryz.prog :=
  Ent.sound_fn (cx := F_message_lines_cx fu) (labs := [F_message_lines_l0 (F_message_lines_p0 fu fu)]) (F_message_lines_cxok fu) rfl rfl rfl rfl Tryz.call23 (by kernel_rfl) (fun d' => (labs1 (F_message_lines_p0_ok fu d' fu) labs0)) (fun d d' => by kernel_rfl)
/- posthouse/header.Validate -/
def F_header_Validate_out : RS ((Int × Int)) := .one (α := (Int × Int)) (.h (.prod (.int .i64) (.int .i64))) [] (fun r => (r, ())) (fun y => y.1) (fun _ => rfl)
def F_header_Validate_hp : List (Nat × BPt) := []
def F_header_Validate_args : List Pt := [.h (.list (.prod .str .str))]
def F_header_Validate_ent (r : (List ((List UInt8) × (List UInt8))) → Option ((Int × Int))) : Ent := { key := .fn 33, args := F_header_Validate_args, hp := F_header_Validate_hp, R := ((Int × Int)), F := fun d _ => r d.1, out := F_header_Validate_out }
noncomputable def F_header_Validate_cx (fu : Nat) : Cx := { P := Tryz.prog, tb := ⟨[F_basic_Fault_ent F_basic_Fault, F_fold_Fold_ent (F_fold_Fold fu), F_basic_Failed_ent F_basic_Failed, F_basic_None_ent F_basic_None], etys, false⟩, fn := Tryz.f33, f := 33, ids := idsB F_header_Validate_hp, rd := none, tags := [] }
theorem F_header_Validate_cxok (fu : Nat) : (F_header_Validate_cx fu).Ok (bodyOf Tryz.f33) := ⟨(ents1 F_basic_Fault_ok (ents1 (F_fold_Fold_ok fu) (ents1 F_basic_Failed_ok (ents1 F_basic_None_ok ents0)))), Tryz_mixed, Tryz.func33, tags0⟩
def F_header_Validate_l0 (r : (List ((List UInt8) × (List UInt8))) → Int → Int → (Int × Int) → Option ((Int × Int))) : Lab ((Int × Int)) := ⟨[(0, [0, 0, 0, 1, 0, 1, 1]), (0, [1, 0, 0, 1, 0, 1, 1]), (2, [0, 1, 0, 1, 1]), (1, [1, 0, 1, 1]), (0, [1, 1, 1])], ⟨34, [(2, .ptr 16 0), (11, .h (.list (.prod .str .str))), (12, .h (.int .i64)), (13, .h (.int .i64))], [(16, .dat (.prod (.int .i64) (.int .i64)) 28)], 64, []⟩, fun d => r d.1.2.1 d.1.2.2.1 d.1.2.2.2.1 d.2.1⟩
theorem F_header_Validate_b0_ok (fu : Nat) (d' : bden F_header_Validate_hp) (r0 : (List ((List UInt8) × (List UInt8))) → Int → Int → (Int × Int) → Option ((Int × Int))) (h0 : LabOk (F_header_Validate_cx fu) (bput F_header_Validate_hp d') F_header_Validate_out (bodyOf Tryz.f33) (F_header_Validate_l0 r0)) : LabOk (F_header_Validate_cx fu) (bput F_header_Validate_hp d') F_header_Validate_out (bodyOf Tryz.f33) (F_header_Validate_l0 (F_header_Validate_b0 fu r0)) :=
  LabOk.of_run (labs := [F_header_Validate_l0 (r0)]) (F_header_Validate_cxok fu) (fun _ _ h => idsB_look h) (labs1 h0 labs0) (fun d => by kernel_rfl)
theorem F_header_Validate_p0_ok (fu : Nat) (d' : bden F_header_Validate_hp) : ∀ n, LabOk (F_header_Validate_cx fu) (bput F_header_Validate_hp d') F_header_Validate_out (bodyOf Tryz.f33) (F_header_Validate_l0 (F_header_Validate_p0 fu n))
  | 0 => fun _ _ h => by cases h
  | n + 1 => F_header_Validate_b0_ok fu d' (F_header_Validate_p0 fu n) (F_header_Validate_p0_ok fu d' n)
theorem F_header_Validate_ok (fu : Nat) : (F_header_Validate_ent (F_header_Validate fu)).Sound Tryz.prog :=
  Ent.sound_fn (cx := F_header_Validate_cx fu) (labs := [F_header_Validate_l0 (F_header_Validate_p0 fu fu)]) (F_header_Validate_cxok fu) rfl rfl rfl rfl Tryz.call33 (by kernel_rfl) (fun d' => (labs1 (F_header_Validate_p0_ok fu d' fu) labs0)) (fun d d' => by kernel_rfl)
/- posthouse/message.write -/
def F_message_write_out : RS ((List UInt8)) := .one (α := (List UInt8)) (.own 0) [(0, .row .byte 5)] (fun r => ((), (r, ()))) (fun y => y.2.1) (fun _ => rfl)
def F_message_write_hp : List (Nat × BPt) := []
def F_message_write_args : List Pt := [.h (.prod (.list (.prod .str .str)) (.list .byte))]
def F_message_write_ent (r : ((List ((List UInt8) × (List UInt8))) × (List UInt8)) → Option ((List UInt8))) : Ent := { key := .fn 28, args := F_message_write_args, hp := F_message_write_hp, R := ((List UInt8)), F := fun d _ => r d.1, out := F_message_write_out }
noncomputable def F_message_write_cx (fu : Nat) : Cx := { P := Tryz.prog, tb := ⟨[F_fold_Fold_ent (F_fold_Fold fu)], etys, false⟩, fn := Tryz.f28, f := 28, ids := idsB F_message_write_hp, rd := none, tags := [] }
theorem F_message_write_cxok (fu : Nat) : (F_message_write_cx fu).Ok (bodyOf Tryz.f28) := ⟨(ents1 (F_fold_Fold_ok fu) ents0), Tryz_mixed, Tryz.func28, tags0⟩
def F_message_write_l1 (r : (List ((List UInt8) × (List UInt8))) → Int → Int → Int → Int → ((List ((List UInt8) × (List UInt8))) × (List UInt8)) → (List (List UInt8)) → (List UInt8) → Option ((List UInt8))) : Lab ((List UInt8)) := ⟨[(0, [0, 0, 0, 1, 1, 1, 0, 0, 1, 1, 0, 0, 1, 0, 1, 1]), (0, [1, 0, 0, 1, 1, 1, 0, 0, 1, 1, 0, 0, 1, 0, 1, 1]), (2, [0, 1, 1, 1, 0, 0, 1, 1, 0, 0, 1, 0, 1, 1]), (1, [1, 1, 1, 0, 0, 1, 1, 0, 0, 1, 0, 1, 1]), (1, [0, 1, 1, 0, 0, 1, 0, 1, 1]), (0, [1, 1, 1, 0, 0, 1, 0, 1, 1]), (2, [0, 1, 0, 1, 1]), (1, [1, 0, 1, 1]), (0, [1, 1, 1])], ⟨44, [(1, .ptr 16 0), (3, .own 18), (11, .h (.list (.prod .str .str))), (12, .h (.int .i64)), (13, .h (.int .i64)), (25, .own 17), (26, .h (.int .i64)), (27, .h (.int .i64))], [(16, .dat (.prod (.list (.prod .str .str)) (.list .byte)) 26), (17, .row .str 9), (18, .row .byte 5)], 64, []⟩, fun d => r d.1.2.2.1 d.1.2.2.2.1 d.1.2.2.2.2.1 d.1.2.2.2.2.2.2.1 d.1.2.2.2.2.2.2.2.1 d.2.1 d.2.2.1 d.2.2.2.1⟩
def F_message_write_l0 (r : (List ((List UInt8) × (List UInt8))) → Int → Int → ((List ((List UInt8) × (List UInt8))) × (List UInt8)) → (List UInt8) → Option ((List UInt8))) : Lab ((List UInt8)) := ⟨[(0, [0, 0, 0, 1, 0, 1, 1]), (0, [1, 0, 0, 1, 0, 1, 1]), (2, [0, 1, 0, 1, 1]), (1, [1, 0, 1, 1]), (0, [1, 1, 1])], ⟨44, [(1, .ptr 16 0), (3, .own 17), (11, .h (.list (.prod .str .str))), (12, .h (.int .i64)), (13, .h (.int .i64))], [(16, .dat (.prod (.list (.prod .str .str)) (.list .byte)) 26), (17, .row .byte 5)], 64, []⟩, fun d => r d.1.2.2.1 d.1.2.2.2.1 d.1.2.2.2.2.1 d.2.1 d.2.2.1⟩
theorem F_message_write_b1_ok (fu : Nat) (d' : bden F_message_write_hp) (r0 : (List ((List UInt8) × (List UInt8))) → Int → Int → ((List ((List UInt8) × (List UInt8))) × (List UInt8)) → (List UInt8) → Option ((List UInt8))) (h0 : LabOk (F_message_write_cx fu) (bput F_message_write_hp d') F_message_write_out (bodyOf Tryz.f28) (F_message_write_l0 r0)) (r1 : (List ((List UInt8) × (List UInt8))) → Int → Int → Int → Int → ((List ((List UInt8) × (List UInt8))) × (List UInt8)) → (List (List UInt8)) → (List UInt8) → Option ((List UInt8))) (h1 : LabOk (F_message_write_cx fu) (bput F_message_write_hp d') F_message_write_out (bodyOf Tryz.f28) (F_message_write_l1 r1)) : LabOk (F_message_write_cx fu) (bput F_message_write_hp d') F_message_write_out (bodyOf Tryz.f28) (F_message_write_l1 (F_message_write_b1 fu r0 r1)) :=
  LabOk.of_run (labs := [F_message_write_l1 (r1), F_message_write_l0 (r0)]) (F_message_write_cxok fu) (fun _ _ h => idsB_look h) (labs1 h1 (labs1 h0 labs0)) (fun d => by kernel_rfl)
theorem F_message_write_p1_ok (fu : Nat) (d' : bden F_message_write_hp) (r0 : (List ((List UInt8) × (List UInt8))) → Int → Int → ((List ((List UInt8) × (List UInt8))) × (List UInt8)) → (List UInt8) → Option ((List UInt8))) (h0 : LabOk (F_message_write_cx fu) (bput F_message_write_hp d') F_message_write_out (bodyOf Tryz.f28) (F_message_write_l0 r0)) : ∀ n, LabOk (F_message_write_cx fu) (bput F_message_write_hp d') F_message_write_out (bodyOf Tryz.f28) (F_message_write_l1 (F_message_write_p1 fu r0 n))
  | 0 => fun _ _ h => by cases h
  | n + 1 => F_message_write_b1_ok fu d' r0 h0 (F_message_write_p1 fu r0 n) (F_message_write_p1_ok fu d' r0 h0 n)
theorem F_message_write_b0_ok (fu : Nat) (d' : bden F_message_write_hp) (r0 : (List ((List UInt8) × (List UInt8))) → Int → Int → ((List ((List UInt8) × (List UInt8))) × (List UInt8)) → (List UInt8) → Option ((List UInt8))) (h0 : LabOk (F_message_write_cx fu) (bput F_message_write_hp d') F_message_write_out (bodyOf Tryz.f28) (F_message_write_l0 r0)) : LabOk (F_message_write_cx fu) (bput F_message_write_hp d') F_message_write_out (bodyOf Tryz.f28) (F_message_write_l0 (F_message_write_b0 fu r0)) :=
  LabOk.of_run (labs := [F_message_write_l1 (F_message_write_p1 fu r0 fu)]) (F_message_write_cxok fu) (fun _ _ h => idsB_look h) (labs1 (F_message_write_p1_ok fu d' r0 h0 fu) labs0) (fun d => by kernel_rfl)
theorem F_message_write_p0_ok (fu : Nat) (d' : bden F_message_write_hp) : ∀ n, LabOk (F_message_write_cx fu) (bput F_message_write_hp d') F_message_write_out (bodyOf Tryz.f28) (F_message_write_l0 (F_message_write_p0 fu n))
  | 0 => fun _ _ h => by cases h
  | n + 1 => F_message_write_b0_ok fu d' (F_message_write_p0 fu n) (F_message_write_p0_ok fu d' n)
theorem F_message_write_ok (fu : Nat) : (F_message_write_ent (F_message_write fu)).Sound Tryz.prog :=
  Ent.sound_fn (cx := F_message_write_cx fu) (labs := [F_message_write_l0 (F_message_write_p0 fu fu)]) (F_message_write_cxok fu) rfl rfl rfl rfl Tryz.call28 (by kernel_rfl) (fun d' => (labs1 (F_message_write_p0_ok fu d' fu) labs0)) (fun d d' => by kernel_rfl)
/- posthouse/basic.Body -/
def F_basic_Body_out : RS Int := .one (α := Int) (.h (.int .i64)) [] (fun r => (r, ())) (fun y => y.1) (fun _ => rfl)
def F_basic_Body_hp : List (Nat × BPt) := []
def F_basic_Body_args : List Pt := [.h (.list .byte)]
def F_basic_Body_ent (r : (List UInt8) → Option Int) : Ent := { key := .fn 57, args := F_basic_Body_args, hp := F_basic_Body_hp, R := Int, F := fun d _ => r d.1, out := F_basic_Body_out }
noncomputable def F_basic_Body_cx (fu : Nat) : Cx := { P := Tryz.prog, tb := ⟨[], etys, false⟩, fn := Tryz.f57, f := 57, ids := idsB F_basic_Body_hp, rd := none, tags := [] }
theorem F_basic_Body_cxok (fu : Nat) : (F_basic_Body_cx fu).Ok (bodyOf Tryz.f57) := ⟨ents0, Tryz_mixed, Tryz.func57, tags0⟩
def F_basic_Body_l2 (r : (List UInt8) → Int → Int → UInt8 → Option Int) : Lab Int := ⟨[(0, [0, 0, 1, 1, 0, 0, 1, 0, 0, 1, 0, 1, 1]), (0, [1, 0, 1, 1, 0, 0, 1, 0, 0, 1, 0, 1, 1]), (0, [1, 1, 1, 0, 0, 1, 0, 0, 1, 0, 1, 1]), (1, [0, 1, 0, 0, 1, 0, 1, 1]), (0, [1, 1, 0, 0, 1, 0, 1, 1]), (2, [0, 1, 0, 1, 1]), (1, [1, 0, 1, 1]), (0, [1, 1, 1])], ⟨45, [(0, .h (.list .byte)), (3, .h (.int .i64)), (4, .h (.int .i64)), (5, .h .byte)], [], 64, []⟩, fun d => r d.1.1 d.1.2.1 d.1.2.2.1 d.1.2.2.2.1⟩
def F_basic_Body_l1 (r : (List UInt8) → Int → Int → UInt8 → Bool → Option Int) : Lab Int := ⟨[(0, [1, 0, 1, 0, 0, 1, 0, 0, 1, 0, 1, 1]), (0, [1, 1, 0, 0, 1, 0, 0, 1, 0, 1, 1]), (1, [0, 1, 0, 0, 1, 0, 1, 1]), (0, [1, 1, 0, 0, 1, 0, 1, 1]), (2, [0, 1, 0, 1, 1]), (1, [1, 0, 1, 1]), (0, [1, 1, 1])], ⟨45, [(0, .h (.list .byte)), (3, .h (.int .i64)), (4, .h (.int .i64)), (5, .h .byte), (32, .h .bool)], [], 64, []⟩, fun d => r d.1.1 d.1.2.1 d.1.2.2.1 d.1.2.2.2.1 d.1.2.2.2.2.1⟩
def F_basic_Body_l0 (r : (List UInt8) → Int → Int → Option Int) : Lab Int := ⟨[(0, [0, 0, 0, 0, 1, 0, 1, 1]), (0, [1, 0, 0, 0, 1, 0, 1, 1]), (0, [1, 0, 0, 1, 0, 1, 1]), (2, [0, 1, 0, 1, 1]), (1, [1, 0, 1, 1]), (0, [1, 1, 1])], ⟨45, [(0, .h (.list .byte)), (3, .h (.int .i64)), (4, .h (.int .i64))], [], 64, []⟩, fun d => r d.1.1 d.1.2.1 d.1.2.2.1⟩
theorem F_basic_Body_p2_ok (fu : Nat) (d' : bden F_basic_Body_hp) (r0 : (List UInt8) → Int → Int → Option Int) (h0 : LabOk (F_basic_Body_cx fu) (bput F_basic_Body_hp d') F_basic_Body_out (bodyOf Tryz.f57) (F_basic_Body_l0 r0)) : LabOk (F_basic_Body_cx fu) (bput F_basic_Body_hp d') F_basic_Body_out (bodyOf Tryz.f57) (F_basic_Body_l2 (F_basic_Body_p2 fu r0)) :=
  LabOk.of_run (labs := [F_basic_Body_l0 (r0)]) (F_basic_Body_cxok fu) (fun _ _ h => idsB_look h) (labs1 h0 labs0) (fun d => by kernel_rfl)
theorem F_basic_Body_p1_ok (fu : Nat) (d' : bden F_basic_Body_hp) (r0 : (List UInt8) → Int → Int → Option Int) (h0 : LabOk (F_basic_Body_cx fu) (bput F_basic_Body_hp d') F_basic_Body_out (bodyOf Tryz.f57) (F_basic_Body_l0 r0)) : LabOk (F_basic_Body_cx fu) (bput F_basic_Body_hp d') F_basic_Body_out (bodyOf Tryz.f57) (F_basic_Body_l1 (F_basic_Body_p1 fu r0)) :=
  LabOk.of_run (labs := [F_basic_Body_l0 (r0), F_basic_Body_l2 (F_basic_Body_p2 fu r0)]) (F_basic_Body_cxok fu) (fun _ _ h => idsB_look h) (labs1 h0 (labs1 (F_basic_Body_p2_ok fu d' r0 h0) labs0)) (fun d => by kernel_rfl)
theorem F_basic_Body_b0_ok (fu : Nat) (d' : bden F_basic_Body_hp) (r0 : (List UInt8) → Int → Int → Option Int) (h0 : LabOk (F_basic_Body_cx fu) (bput F_basic_Body_hp d') F_basic_Body_out (bodyOf Tryz.f57) (F_basic_Body_l0 r0)) : LabOk (F_basic_Body_cx fu) (bput F_basic_Body_hp d') F_basic_Body_out (bodyOf Tryz.f57) (F_basic_Body_l0 (F_basic_Body_b0 fu r0)) :=
  LabOk.of_run (labs := [F_basic_Body_l1 (F_basic_Body_p1 fu r0)]) (F_basic_Body_cxok fu) (fun _ _ h => idsB_look h) (labs1 (F_basic_Body_p1_ok fu d' r0 h0) labs0) (fun d => by kernel_rfl)
theorem F_basic_Body_p0_ok (fu : Nat) (d' : bden F_basic_Body_hp) : ∀ n, LabOk (F_basic_Body_cx fu) (bput F_basic_Body_hp d') F_basic_Body_out (bodyOf Tryz.f57) (F_basic_Body_l0 (F_basic_Body_p0 fu n))
  | 0 => fun _ _ h => by cases h
  | n + 1 => F_basic_Body_b0_ok fu d' (F_basic_Body_p0 fu n) (F_basic_Body_p0_ok fu d' n)
theorem F_basic_Body_ok (fu : Nat) : (F_basic_Body_ent (F_basic_Body fu)).Sound Tryz.prog :=
  Ent.sound_fn (cx := F_basic_Body_cx fu) (labs := [F_basic_Body_l0 (F_basic_Body_p0 fu fu)]) (F_basic_Body_cxok fu) rfl rfl rfl rfl Tryz.call57 (by kernel_rfl) (fun d' => (labs1 (F_basic_Body_p0_ok fu d' fu) labs0)) (fun d d' => by kernel_rfl)
/- posthouse/message.body -/
def F_message_body_out : RS ((Int × Int)) := .one (α := (Int × Int)) (.h (.prod (.int .i64) (.int .i64))) [] (fun r => (r, ())) (fun y => y.1) (fun _ => rfl)
def F_message_body_hp : List (Nat × BPt) := []
def F_message_body_args : List Pt := [.h (.list .byte)]
def F_message_body_ent (r : (List UInt8) → Option ((Int × Int))) : Ent := { key := .fn 35, args := F_message_body_args, hp := F_message_body_hp, R := ((Int × Int)), F := fun d _ => r d.1, out := F_message_body_out }
noncomputable def F_message_body_cx (fu : Nat) : Cx := { P := Tryz.prog, tb := ⟨[F_basic_Body_ent (F_basic_Body fu), F_basic_Fault_ent F_basic_Fault, F_basic_None_ent F_basic_None], etys, false⟩, fn := Tryz.f35, f := 35, ids := idsB F_message_body_hp, rd := none, tags := [] }
theorem F_message_body_cxok (fu : Nat) : (F_message_body_cx fu).Ok (bodyOf Tryz.f35) := ⟨(ents1 (F_basic_Body_ok fu) (ents1 F_basic_Fault_ok (ents1 F_basic_None_ok ents0))), Tryz_mixed, Tryz.func35, tags0⟩
theorem F_message_body_ok (fu : Nat) : (F_message_body_ent (F_message_body fu)).Sound Tryz.prog :=
  Ent.sound_fn (cx := F_message_body_cx fu) (labs := []) (F_message_body_cxok fu) rfl rfl rfl rfl Tryz.call35 (by kernel_rfl) (fun _ => labs0) (fun d d' => by kernel_rfl)
/- posthouse/message.Validate -/
def F_message_Validate_out : RS ((Int × Int)) := .one (α := (Int × Int)) (.h (.prod (.int .i64) (.int .i64))) [] (fun r => (r, ())) (fun y => y.1) (fun _ => rfl)
def F_message_Validate_hp : List (Nat × BPt) := []
def F_message_Validate_args : List Pt := [.h (.prod (.list (.prod .str .str)) (.list .byte))]
def F_message_Validate_ent (r : ((List ((List UInt8) × (List UInt8))) × (List UInt8)) → Option ((Int × Int))) : Ent := { key := .fn 14, args := F_message_Validate_args, hp := F_message_Validate_hp, R := ((Int × Int)), F := fun d _ => r d.1, out := F_message_Validate_out }
noncomputable def F_message_Validate_cx (fu : Nat) : Cx := { P := Tryz.prog, tb := ⟨[F_header_Validate_ent (F_header_Validate fu), F_basic_Failed_ent F_basic_Failed, F_message_write_ent (F_message_write fu), F_basic_Fault_ent F_basic_Fault, F_message_body_ent (F_message_body fu)], etys, false⟩, fn := Tryz.f14, f := 14, ids := idsB F_message_Validate_hp, rd := none, tags := [] }
theorem F_message_Validate_cxok (fu : Nat) : (F_message_Validate_cx fu).Ok (bodyOf Tryz.f14) := ⟨(ents1 (F_header_Validate_ok fu) (ents1 F_basic_Failed_ok (ents1 (F_message_write_ok fu) (ents1 F_basic_Fault_ok (ents1 (F_message_body_ok fu) ents0))))), Tryz_mixed, Tryz.func14, tags0⟩
theorem F_message_Validate_ok (fu : Nat) : (F_message_Validate_ent (F_message_Validate fu)).Sound Tryz.prog :=
  Ent.sound_fn (cx := F_message_Validate_cx fu) (labs := []) (F_message_Validate_cxok fu) rfl rfl rfl rfl Tryz.call14 (by kernel_rfl) (fun _ => labs0) (fun d d' => by kernel_rfl)
/- posthouse/message.Read -/
def F_message_Read_out : RS R_message_Read := .one (α := ((List ((List UInt8) × (List UInt8))) × (List UInt8)) × (Int × Int)) (.tup [.h (.prod (.list (.prod .str .str)) (.list .byte)), .h (.prod (.int .i64) (.int .i64))]) [] (fun r => ((r.1, (r.2, ())), ())) (fun y => (y.1.1, y.1.2.1)) (fun _ => rfl)
def F_message_Read_hp : List (Nat × BPt) := []
def F_message_Read_args : List Pt := [.h (.list .byte)]
def F_message_Read_ent (r : (List UInt8) → Option R_message_Read) : Ent := { key := .fn 9, args := F_message_Read_args, hp := F_message_Read_hp, R := R_message_Read, F := fun d _ => r d.1, out := F_message_Read_out }
noncomputable def F_message_Read_cx (fu : Nat) : Cx := { P := Tryz.prog, tb := ⟨[F_header_Read_ent (F_header_Read fu), F_basic_Failed_ent F_basic_Failed, F_message_lines_ent (F_message_lines fu), F_message_Validate_ent (F_message_Validate fu), F_basic_None_ent F_basic_None], etys, false⟩, fn := Tryz.f9, f := 9, ids := idsB F_message_Read_hp, rd := none, tags := [] }
theorem F_message_Read_cxok (fu : Nat) : (F_message_Read_cx fu).Ok (bodyOf Tryz.f9) := ⟨(ents1 (F_header_Read_ok fu) (ents1 F_basic_Failed_ok (ents1 (F_message_lines_ok fu) (ents1 (F_message_Validate_ok fu) (ents1 F_basic_None_ok ents0))))), Tryz_mixed, Tryz.func9, tags0⟩
theorem F_message_Read_ok (fu : Nat) : (F_message_Read_ent (F_message_Read fu)).Sound Tryz.prog :=
  Ent.sound_fn (cx := F_message_Read_cx fu) (labs := []) (F_message_Read_cxok fu) rfl rfl rfl rfl Tryz.call9 (by kernel_rfl) (fun _ => labs0) (fun d d' => by kernel_rfl)
/- posthouse/message.Write -/
def F_message_Write_out : RS ((Int × Int) × (List UInt8)) := .one (α := (Int × Int) × (List UInt8)) (.tup [.own 0, .h (.prod (.int .i64) (.int .i64))]) [(0, .row .byte 5)] (fun r => (((), (r.1, ())), (r.2, ()))) (fun y => (y.1.2.1, y.2.1)) (fun _ => rfl)
def F_message_Write_hp : List (Nat × BPt) := []
def F_message_Write_args : List Pt := [.h (.prod (.list (.prod .str .str)) (.list .byte))]
def F_message_Write_ent (r : ((List ((List UInt8) × (List UInt8))) × (List UInt8)) → Option ((Int × Int) × (List UInt8))) : Ent := { key := .fn 12, args := F_message_Write_args, hp := F_message_Write_hp, R := ((Int × Int) × (List UInt8)), F := fun d _ => r d.1, out := F_message_Write_out }
noncomputable def F_message_Write_cx (fu : Nat) : Cx := { P := Tryz.prog, tb := ⟨[F_message_Validate_ent (F_message_Validate fu), F_basic_Failed_ent F_basic_Failed, F_message_write_ent (F_message_write fu), F_basic_None_ent F_basic_None], etys, false⟩, fn := Tryz.f12, f := 12, ids := idsB F_message_Write_hp, rd := none, tags := [] }
theorem F_message_Write_cxok (fu : Nat) : (F_message_Write_cx fu).Ok (bodyOf Tryz.f12) := ⟨(ents1 (F_message_Validate_ok fu) (ents1 F_basic_Failed_ok (ents1 (F_message_write_ok fu) (ents1 F_basic_None_ok ents0)))), Tryz_mixed, Tryz.func12, tags0⟩
theorem F_message_Write_ok (fu : Nat) : (F_message_Write_ent (F_message_Write fu)).Sound Tryz.prog :=
  Ent.sound_fn (cx := F_message_Write_cx fu) (labs := []) (F_message_Write_cxok fu) rfl rfl rfl rfl Tryz.call12 (by kernel_rfl) (fun _ => labs0) (fun d d' => by kernel_rfl)
/- posthouse/header.valid -/
def F_header_valid_out : RS ((Int × Int)) := .one (α := (Int × Int)) (.h (.prod (.int .i64) (.int .i64))) [] (fun r => (r, ())) (fun y => y.1) (fun _ => rfl)
def F_header_valid_hp : List (Nat × BPt) := []
def F_header_valid_args : List Pt := [.h (.list (.prod .str .str)), .h .str]
def F_header_valid_ent (r : (List ((List UInt8) × (List UInt8))) → (List UInt8) → Option ((Int × Int))) : Ent := { key := .fn 60, args := F_header_valid_args, hp := F_header_valid_hp, R := ((Int × Int)), F := fun d _ => r d.1 d.2.1, out := F_header_valid_out }
noncomputable def F_header_valid_cx (fu : Nat) : Cx := { P := Tryz.prog, tb := ⟨[F_header_Validate_ent (F_header_Validate fu), F_basic_Failed_ent F_basic_Failed, F_header_name_ent (F_header_name fu), F_basic_Fault_ent F_basic_Fault, F_basic_None_ent F_basic_None], etys, false⟩, fn := Tryz.f60, f := 60, ids := idsB F_header_valid_hp, rd := none, tags := [] }
theorem F_header_valid_cxok (fu : Nat) : (F_header_valid_cx fu).Ok (bodyOf Tryz.f60) := ⟨(ents1 (F_header_Validate_ok fu) (ents1 F_basic_Failed_ok (ents1 (F_header_name_ok fu) (ents1 F_basic_Fault_ok (ents1 F_basic_None_ok ents0))))), Tryz_mixed, Tryz.func60, tags0⟩
theorem F_header_valid_ok (fu : Nat) : (F_header_valid_ent (F_header_valid fu)).Sound Tryz.prog :=
  Ent.sound_fn (cx := F_header_valid_cx fu) (labs := []) (F_header_valid_cxok fu) rfl rfl rfl rfl Tryz.call60 (by kernel_rfl) (fun _ => labs0) (fun d d' => by kernel_rfl)
/- posthouse/basic.Lower -/
def F_basic_Lower_out : RS ((List UInt8)) := .one (α := (List UInt8)) (.h .str) [] (fun r => (r, ())) (fun y => y.1) (fun _ => rfl)
def F_basic_Lower_hp : List (Nat × BPt) := []
def F_basic_Lower_args : List Pt := [.h .str]
def F_basic_Lower_ent (r : (List UInt8) → Option ((List UInt8))) : Ent := { key := .fn 58, args := F_basic_Lower_args, hp := F_basic_Lower_hp, R := ((List UInt8)), F := fun d _ => r d.1, out := F_basic_Lower_out }
noncomputable def F_basic_Lower_cx (fu : Nat) : Cx := { P := Tryz.prog, tb := ⟨[], etys, false⟩, fn := Tryz.f58, f := 58, ids := idsB F_basic_Lower_hp, rd := none, tags := [] }
theorem F_basic_Lower_cxok (fu : Nat) : (F_basic_Lower_cx fu).Ok (bodyOf Tryz.f58) := ⟨ents0, Tryz_mixed, Tryz.func58, tags0⟩
def F_basic_Lower_l0 (r : Int → Int → (List UInt8) → Option ((List UInt8))) : Lab ((List UInt8)) := ⟨[(0, [0, 0, 0, 1, 0, 1, 1]), (0, [1, 0, 0, 1, 0, 1, 1]), (2, [0, 1, 0, 1, 1]), (1, [1, 0, 1, 1]), (0, [1, 1, 1])], ⟨30, [(3, .own 16), (8, .own 16), (9, .h (.int .i64)), (10, .h (.int .i64))], [(16, .row .byte 5)], 64, []⟩, fun d => r d.1.2.2.1 d.1.2.2.2.1 d.2.1⟩
theorem F_basic_Lower_b0_ok (fu : Nat) (d' : bden F_basic_Lower_hp) (r0 : Int → Int → (List UInt8) → Option ((List UInt8))) (h0 : LabOk (F_basic_Lower_cx fu) (bput F_basic_Lower_hp d') F_basic_Lower_out (bodyOf Tryz.f58) (F_basic_Lower_l0 r0)) : LabOk (F_basic_Lower_cx fu) (bput F_basic_Lower_hp d') F_basic_Lower_out (bodyOf Tryz.f58) (F_basic_Lower_l0 (F_basic_Lower_b0 fu r0)) :=
  LabOk.of_run (labs := [F_basic_Lower_l0 (r0)]) (F_basic_Lower_cxok fu) (fun _ _ h => idsB_look h) (labs1 h0 labs0) (fun d => by kernel_rfl)
theorem F_basic_Lower_p0_ok (fu : Nat) (d' : bden F_basic_Lower_hp) : ∀ n, LabOk (F_basic_Lower_cx fu) (bput F_basic_Lower_hp d') F_basic_Lower_out (bodyOf Tryz.f58) (F_basic_Lower_l0 (F_basic_Lower_p0 fu n))
  | 0 => fun _ _ h => by cases h
  | n + 1 => F_basic_Lower_b0_ok fu d' (F_basic_Lower_p0 fu n) (F_basic_Lower_p0_ok fu d' n)
theorem F_basic_Lower_ok (fu : Nat) : (F_basic_Lower_ent (F_basic_Lower fu)).Sound Tryz.prog :=
  Ent.sound_fn (cx := F_basic_Lower_cx fu) (labs := [F_basic_Lower_l0 (F_basic_Lower_p0 fu fu)]) (F_basic_Lower_cxok fu) rfl rfl rfl rfl Tryz.call58 (by kernel_rfl) (fun d' => (labs1 (F_basic_Lower_p0_ok fu d' fu) labs0)) (fun d d' => by kernel_rfl)
/- posthouse/basic.Same -/
def F_basic_Same_out : RS Bool := .one (α := Bool) (.h .bool) [] (fun r => (r, ())) (fun y => y.1) (fun _ => rfl)
def F_basic_Same_hp : List (Nat × BPt) := []
def F_basic_Same_args : List Pt := [.h .str, .h .str]
def F_basic_Same_ent (r : (List UInt8) → (List UInt8) → Option Bool) : Ent := { key := .fn 36, args := F_basic_Same_args, hp := F_basic_Same_hp, R := Bool, F := fun d _ => r d.1 d.2.1, out := F_basic_Same_out }
noncomputable def F_basic_Same_cx (fu : Nat) : Cx := { P := Tryz.prog, tb := ⟨[F_basic_Lower_ent (F_basic_Lower fu)], etys, false⟩, fn := Tryz.f36, f := 36, ids := idsB F_basic_Same_hp, rd := none, tags := [] }
theorem F_basic_Same_cxok (fu : Nat) : (F_basic_Same_cx fu).Ok (bodyOf Tryz.f36) := ⟨(ents1 (F_basic_Lower_ok fu) ents0), Tryz_mixed, Tryz.func36, tags0⟩
theorem F_basic_Same_ok (fu : Nat) : (F_basic_Same_ent (F_basic_Same fu)).Sound Tryz.prog :=
  Ent.sound_fn (cx := F_basic_Same_cx fu) (labs := []) (F_basic_Same_cxok fu) rfl rfl rfl rfl Tryz.call36 (by kernel_rfl) (fun _ => labs0) (fun d d' => by kernel_rfl)
/- posthouse/header.Get -/
def F_header_Get_out : RS ((Int × Int) × (List (List UInt8))) := .one (α := (Int × Int) × (List (List UInt8))) (.tup [.own 0, .h (.prod (.int .i64) (.int .i64))]) [(0, .row .str 9)] (fun r => (((), (r.1, ())), (r.2, ()))) (fun y => (y.1.2.1, y.2.1)) (fun _ => rfl)
def F_header_Get_hp : List (Nat × BPt) := []
def F_header_Get_args : List Pt := [.h (.list (.prod .str .str)), .h .str]
def F_header_Get_ent (r : (List ((List UInt8) × (List UInt8))) → (List UInt8) → Option ((Int × Int) × (List (List UInt8)))) : Ent := { key := .fn 38, args := F_header_Get_args, hp := F_header_Get_hp, R := ((Int × Int) × (List (List UInt8))), F := fun d _ => r d.1 d.2.1, out := F_header_Get_out }
noncomputable def F_header_Get_cx (fu : Nat) : Cx := { P := Tryz.prog, tb := ⟨[F_header_valid_ent (F_header_valid fu), F_basic_Failed_ent F_basic_Failed, F_basic_Same_ent (F_basic_Same fu), F_basic_None_ent F_basic_None], etys, false⟩, fn := Tryz.f38, f := 38, ids := idsB F_header_Get_hp, rd := none, tags := [] }
theorem F_header_Get_cxok (fu : Nat) : (F_header_Get_cx fu).Ok (bodyOf Tryz.f38) := ⟨(ents1 (F_header_valid_ok fu) (ents1 F_basic_Failed_ok (ents1 (F_basic_Same_ok fu) (ents1 F_basic_None_ok ents0)))), Tryz_mixed, Tryz.func38, tags0⟩
def F_header_Get_l0 (r : (List UInt8) → (List ((List UInt8) × (List UInt8))) → Int → Int → (Int × Int) → (List (List UInt8)) → Option ((Int × Int) × (List (List UInt8)))) : Lab ((Int × Int) × (List (List UInt8))) := ⟨[(0, [0, 0, 0, 1, 0, 1, 1, 1]), (0, [1, 0, 0, 1, 0, 1, 1, 1]), (2, [0, 1, 0, 1, 1, 1]), (1, [1, 0, 1, 1, 1]), (0, [1, 1, 1, 1])], ⟨34, [(1, .h .str), (5, .ptr 16 0), (7, .own 17), (16, .h (.list (.prod .str .str))), (17, .h (.int .i64)), (18, .h (.int .i64))], [(16, .dat (.prod (.int .i64) (.int .i64)) 28), (17, .row .str 9)], 64, []⟩, fun d => r d.1.1 d.1.2.2.2.1 d.1.2.2.2.2.1 d.1.2.2.2.2.2.1 d.2.1 d.2.2.1⟩
theorem F_header_Get_b0_ok (fu : Nat) (d' : bden F_header_Get_hp) (r0 : (List UInt8) → (List ((List UInt8) × (List UInt8))) → Int → Int → (Int × Int) → (List (List UInt8)) → Option ((Int × Int) × (List (List UInt8)))) (h0 : LabOk (F_header_Get_cx fu) (bput F_header_Get_hp d') F_header_Get_out (bodyOf Tryz.f38) (F_header_Get_l0 r0)) : LabOk (F_header_Get_cx fu) (bput F_header_Get_hp d') F_header_Get_out (bodyOf Tryz.f38) (F_header_Get_l0 (F_header_Get_b0 fu r0)) :=
  LabOk.of_run (labs := [F_header_Get_l0 (r0)]) (F_header_Get_cxok fu) (fun _ _ h => idsB_look h) (labs1 h0 labs0) (fun d => by kernel_rfl)
theorem F_header_Get_p0_ok (fu : Nat) (d' : bden F_header_Get_hp) : ∀ n, LabOk (F_header_Get_cx fu) (bput F_header_Get_hp d') F_header_Get_out (bodyOf Tryz.f38) (F_header_Get_l0 (F_header_Get_p0 fu n))
  | 0 => fun _ _ h => by cases h
  | n + 1 => F_header_Get_b0_ok fu d' (F_header_Get_p0 fu n) (F_header_Get_p0_ok fu d' n)
theorem F_header_Get_ok (fu : Nat) : (F_header_Get_ent (F_header_Get fu)).Sound Tryz.prog :=
  Ent.sound_fn (cx := F_header_Get_cx fu) (labs := [F_header_Get_l0 (F_header_Get_p0 fu fu)]) (F_header_Get_cxok fu) rfl rfl rfl rfl Tryz.call38 (by kernel_rfl) (fun d' => (labs1 (F_header_Get_p0_ok fu d' fu) labs0)) (fun d d' => by kernel_rfl)
/- internal/stringslite.HasPrefix -/
def F_internal_stringslite_HasPrefix_out : RS Bool := .one (α := Bool) (.h .bool) [] (fun r => (r, ())) (fun y => y.1) (fun _ => rfl)
def F_internal_stringslite_HasPrefix_hp : List (Nat × BPt) := []
def F_internal_stringslite_HasPrefix_args : List Pt := [.h .str, .h .str]
def F_internal_stringslite_HasPrefix_ent (r : (List UInt8) → (List UInt8) → Option Bool) : Ent := { key := .fn 83, args := F_internal_stringslite_HasPrefix_args, hp := F_internal_stringslite_HasPrefix_hp, R := Bool, F := fun d _ => r d.1 d.2.1, out := F_internal_stringslite_HasPrefix_out }
noncomputable def F_internal_stringslite_HasPrefix_cx : Cx := { P := Tryz.prog, tb := ⟨[], etys, false⟩, fn := Tryz.f83, f := 83, ids := idsB F_internal_stringslite_HasPrefix_hp, rd := none, tags := [] }
theorem F_internal_stringslite_HasPrefix_cxok : (F_internal_stringslite_HasPrefix_cx).Ok (bodyOf Tryz.f83) := ⟨ents0, Tryz_mixed, Tryz.func83, tags0⟩
theorem F_internal_stringslite_HasPrefix_ok : (F_internal_stringslite_HasPrefix_ent (F_internal_stringslite_HasPrefix)).Sound Tryz.prog :=
  Ent.sound_fn (cx := F_internal_stringslite_HasPrefix_cx) (labs := []) (F_internal_stringslite_HasPrefix_cxok) rfl rfl rfl rfl Tryz.call83 (by kernel_rfl) (fun _ => labs0) (fun d d' => by kernel_rfl)
/- internal/stringslite.CutPrefix -/
def F_internal_stringslite_CutPrefix_out : RS ((List UInt8) × Bool) := .one (α := (List UInt8) × Bool) (.tup [.h .str, .h .bool]) [] (fun r => ((r.1, (r.2, ())), ())) (fun y => (y.1.1, y.1.2.1)) (fun _ => rfl)
def F_internal_stringslite_CutPrefix_hp : List (Nat × BPt) := []
def F_internal_stringslite_CutPrefix_args : List Pt := [.h .str, .h .str]
def F_internal_stringslite_CutPrefix_ent (r : (List UInt8) → (List UInt8) → Option ((List UInt8) × Bool)) : Ent := { key := .fn 61, args := F_internal_stringslite_CutPrefix_args, hp := F_internal_stringslite_CutPrefix_hp, R := ((List UInt8) × Bool), F := fun d _ => r d.1 d.2.1, out := F_internal_stringslite_CutPrefix_out }
noncomputable def F_internal_stringslite_CutPrefix_cx : Cx := { P := Tryz.prog, tb := ⟨[F_internal_stringslite_HasPrefix_ent F_internal_stringslite_HasPrefix], etys, false⟩, fn := Tryz.f61, f := 61, ids := idsB F_internal_stringslite_CutPrefix_hp, rd := none, tags := [] }
theorem F_internal_stringslite_CutPrefix_cxok : (F_internal_stringslite_CutPrefix_cx).Ok (bodyOf Tryz.f61) := ⟨(ents1 F_internal_stringslite_HasPrefix_ok ents0), Tryz_mixed, Tryz.func61, tags0⟩
theorem F_internal_stringslite_CutPrefix_ok : (F_internal_stringslite_CutPrefix_ent (F_internal_stringslite_CutPrefix)).Sound Tryz.prog :=
  Ent.sound_fn (cx := F_internal_stringslite_CutPrefix_cx) (labs := []) (F_internal_stringslite_CutPrefix_cxok) rfl rfl rfl rfl Tryz.call61 (by kernel_rfl) (fun _ => labs0) (fun d d' => by kernel_rfl)
/- strings.CutPrefix -/
def F_strings_CutPrefix_out : RS ((List UInt8) × Bool) := .one (α := (List UInt8) × Bool) (.tup [.h .str, .h .bool]) [] (fun r => ((r.1, (r.2, ())), ())) (fun y => (y.1.1, y.1.2.1)) (fun _ => rfl)
def F_strings_CutPrefix_hp : List (Nat × BPt) := []
def F_strings_CutPrefix_args : List Pt := [.h .str, .h .str]
def F_strings_CutPrefix_ent (r : (List UInt8) → (List UInt8) → Option ((List UInt8) × Bool)) : Ent := { key := .fn 39, args := F_strings_CutPrefix_args, hp := F_strings_CutPrefix_hp, R := ((List UInt8) × Bool), F := fun d _ => r d.1 d.2.1, out := F_strings_CutPrefix_out }
noncomputable def F_strings_CutPrefix_cx : Cx := { P := Tryz.prog, tb := ⟨[F_internal_stringslite_CutPrefix_ent F_internal_stringslite_CutPrefix], etys, false⟩, fn := Tryz.f39, f := 39, ids := idsB F_strings_CutPrefix_hp, rd := none, tags := [] }
theorem F_strings_CutPrefix_cxok : (F_strings_CutPrefix_cx).Ok (bodyOf Tryz.f39) := ⟨(ents1 F_internal_stringslite_CutPrefix_ok ents0), Tryz_mixed, Tryz.func39, tags0⟩
theorem F_strings_CutPrefix_ok : (F_strings_CutPrefix_ent (F_strings_CutPrefix)).Sound Tryz.prog :=
  Ent.sound_fn (cx := F_strings_CutPrefix_cx) (labs := []) (F_strings_CutPrefix_cxok) rfl rfl rfl rfl Tryz.call39 (by kernel_rfl) (fun _ => labs0) (fun d d' => by kernel_rfl)
/- internal/stringslite.HasSuffix -/
def F_internal_stringslite_HasSuffix_out : RS Bool := .one (α := Bool) (.h .bool) [] (fun r => (r, ())) (fun y => y.1) (fun _ => rfl)
def F_internal_stringslite_HasSuffix_hp : List (Nat × BPt) := []
def F_internal_stringslite_HasSuffix_args : List Pt := [.h .str, .h .str]
def F_internal_stringslite_HasSuffix_ent (r : (List UInt8) → (List UInt8) → Option Bool) : Ent := { key := .fn 84, args := F_internal_stringslite_HasSuffix_args, hp := F_internal_stringslite_HasSuffix_hp, R := Bool, F := fun d _ => r d.1 d.2.1, out := F_internal_stringslite_HasSuffix_out }
noncomputable def F_internal_stringslite_HasSuffix_cx : Cx := { P := Tryz.prog, tb := ⟨[], etys, false⟩, fn := Tryz.f84, f := 84, ids := idsB F_internal_stringslite_HasSuffix_hp, rd := none, tags := [] }
theorem F_internal_stringslite_HasSuffix_cxok : (F_internal_stringslite_HasSuffix_cx).Ok (bodyOf Tryz.f84) := ⟨ents0, Tryz_mixed, Tryz.func84, tags0⟩
theorem F_internal_stringslite_HasSuffix_ok : (F_internal_stringslite_HasSuffix_ent (F_internal_stringslite_HasSuffix)).Sound Tryz.prog :=
  Ent.sound_fn (cx := F_internal_stringslite_HasSuffix_cx) (labs := []) (F_internal_stringslite_HasSuffix_cxok) rfl rfl rfl rfl Tryz.call84 (by kernel_rfl) (fun _ => labs0) (fun d d' => by kernel_rfl)
/- internal/stringslite.CutSuffix -/
def F_internal_stringslite_CutSuffix_out : RS ((List UInt8) × Bool) := .one (α := (List UInt8) × Bool) (.tup [.h .str, .h .bool]) [] (fun r => ((r.1, (r.2, ())), ())) (fun y => (y.1.1, y.1.2.1)) (fun _ => rfl)
def F_internal_stringslite_CutSuffix_hp : List (Nat × BPt) := []
def F_internal_stringslite_CutSuffix_args : List Pt := [.h .str, .h .str]
def F_internal_stringslite_CutSuffix_ent (r : (List UInt8) → (List UInt8) → Option ((List UInt8) × Bool)) : Ent := { key := .fn 62, args := F_internal_stringslite_CutSuffix_args, hp := F_internal_stringslite_CutSuffix_hp, R := ((List UInt8) × Bool), F := fun d _ => r d.1 d.2.1, out := F_internal_stringslite_CutSuffix_out }
noncomputable def F_internal_stringslite_CutSuffix_cx : Cx := { P := Tryz.prog, tb := ⟨[F_internal_stringslite_HasSuffix_ent F_internal_stringslite_HasSuffix], etys, false⟩, fn := Tryz.f62, f := 62, ids := idsB F_internal_stringslite_CutSuffix_hp, rd := none, tags := [] }
theorem F_internal_stringslite_CutSuffix_cxok : (F_internal_stringslite_CutSuffix_cx).Ok (bodyOf Tryz.f62) := ⟨(ents1 F_internal_stringslite_HasSuffix_ok ents0), Tryz_mixed, Tryz.func62, tags0⟩
theorem F_internal_stringslite_CutSuffix_ok : (F_internal_stringslite_CutSuffix_ent (F_internal_stringslite_CutSuffix)).Sound Tryz.prog :=
  Ent.sound_fn (cx := F_internal_stringslite_CutSuffix_cx) (labs := []) (F_internal_stringslite_CutSuffix_cxok) rfl rfl rfl rfl Tryz.call62 (by kernel_rfl) (fun _ => labs0) (fun d d' => by kernel_rfl)
/- strings.CutSuffix -/
def F_strings_CutSuffix_out : RS ((List UInt8) × Bool) := .one (α := (List UInt8) × Bool) (.tup [.h .str, .h .bool]) [] (fun r => ((r.1, (r.2, ())), ())) (fun y => (y.1.1, y.1.2.1)) (fun _ => rfl)
def F_strings_CutSuffix_hp : List (Nat × BPt) := []
def F_strings_CutSuffix_args : List Pt := [.h .str, .h .str]
def F_strings_CutSuffix_ent (r : (List UInt8) → (List UInt8) → Option ((List UInt8) × Bool)) : Ent := { key := .fn 40, args := F_strings_CutSuffix_args, hp := F_strings_CutSuffix_hp, R := ((List UInt8) × Bool), F := fun d _ => r d.1 d.2.1, out := F_strings_CutSuffix_out }
noncomputable def F_strings_CutSuffix_cx : Cx := { P := Tryz.prog, tb := ⟨[F_internal_stringslite_CutSuffix_ent F_internal_stringslite_CutSuffix], etys, false⟩, fn := Tryz.f40, f := 40, ids := idsB F_strings_CutSuffix_hp, rd := none, tags := [] }
theorem F_strings_CutSuffix_cxok : (F_strings_CutSuffix_cx).Ok (bodyOf Tryz.f40) := ⟨(ents1 F_internal_stringslite_CutSuffix_ok ents0), Tryz_mixed, Tryz.func40, tags0⟩
theorem F_strings_CutSuffix_ok : (F_strings_CutSuffix_ent (F_strings_CutSuffix)).Sound Tryz.prog :=
  Ent.sound_fn (cx := F_strings_CutSuffix_cx) (labs := []) (F_strings_CutSuffix_cxok) rfl rfl rfl rfl Tryz.call40 (by kernel_rfl) (fun _ => labs0) (fun d d' => by kernel_rfl)
/- posthouse/message.Id -/
def F_message_Id_out : RS ((List UInt8) × Bool × (Int × Int)) := .one (α := (List UInt8) × Bool × (Int × Int)) (.tup [.h .str, .h .bool, .h (.prod (.int .i64) (.int .i64))]) [] (fun r => ((r.1, (r.2.1, (r.2.2, ()))), ())) (fun y => (y.1.1, y.1.2.1, y.1.2.2.1)) (fun _ => rfl)
def F_message_Id_hp : List (Nat × BPt) := []
def F_message_Id_args : List Pt := [.h (.prod (.list (.prod .str .str)) (.list .byte))]
def F_message_Id_ent (r : ((List ((List UInt8) × (List UInt8))) × (List UInt8)) → Option ((List UInt8) × Bool × (Int × Int))) : Ent := { key := .fn 19, args := F_message_Id_args, hp := F_message_Id_hp, R := ((List UInt8) × Bool × (Int × Int)), F := fun d _ => r d.1, out := F_message_Id_out }
noncomputable def F_message_Id_cx (fu : Nat) : Cx := { P := Tryz.prog, tb := ⟨[F_message_Validate_ent (F_message_Validate fu), F_basic_Failed_ent F_basic_Failed, F_header_Get_ent (F_header_Get fu), F_basic_None_ent F_basic_None, F_strings_CutPrefix_ent F_strings_CutPrefix, F_strings_CutSuffix_ent F_strings_CutSuffix, F_strings_ContainsAny_ent (F_strings_ContainsAny fu)], etys, false⟩, fn := Tryz.f19, f := 19, ids := idsB F_message_Id_hp, rd := none, tags := [] }
theorem F_message_Id_cxok (fu : Nat) : (F_message_Id_cx fu).Ok (bodyOf Tryz.f19) := ⟨(ents1 (F_message_Validate_ok fu) (ents1 F_basic_Failed_ok (ents1 (F_header_Get_ok fu) (ents1 F_basic_None_ok (ents1 F_strings_CutPrefix_ok (ents1 F_strings_CutSuffix_ok (ents1 (F_strings_ContainsAny_ok fu) ents0))))))), Tryz_mixed, Tryz.func19, tags0⟩
theorem F_message_Id_ok (fu : Nat) : (F_message_Id_ent (F_message_Id fu)).Sound Tryz.prog :=
  Ent.sound_fn (cx := F_message_Id_cx fu) (labs := []) (F_message_Id_cxok fu) rfl rfl rfl rfl Tryz.call19 (by kernel_rfl) (fun _ => labs0) (fun d d' => by kernel_rfl)
/- posthouse/message.Trace -/
def F_message_Trace_out : RS Int := .one (α := Int) (.h (.int .i64)) [] (fun r => (r, ())) (fun y => y.1) (fun _ => rfl)
def F_message_Trace_hp : List (Nat × BPt) := []
def F_message_Trace_args : List Pt := [.h (.prod (.list (.prod .str .str)) (.list .byte))]
def F_message_Trace_ent (r : ((List ((List UInt8) × (List UInt8))) × (List UInt8)) → Option Int) : Ent := { key := .fn 17, args := F_message_Trace_args, hp := F_message_Trace_hp, R := Int, F := fun d _ => r d.1, out := F_message_Trace_out }
noncomputable def F_message_Trace_cx (fu : Nat) : Cx := { P := Tryz.prog, tb := ⟨[F_basic_Same_ent (F_basic_Same fu)], etys, false⟩, fn := Tryz.f17, f := 17, ids := idsB F_message_Trace_hp, rd := none, tags := [] }
theorem F_message_Trace_cxok (fu : Nat) : (F_message_Trace_cx fu).Ok (bodyOf Tryz.f17) := ⟨(ents1 (F_basic_Same_ok fu) ents0), Tryz_mixed, Tryz.func17, tags0⟩
def F_message_Trace_l0 (r : Int → (List ((List UInt8) × (List UInt8))) → Int → Int → Option Int) : Lab Int := ⟨[(0, [0, 0, 0, 1, 0, 1, 1]), (0, [1, 0, 0, 1, 0, 1, 1]), (2, [0, 1, 0, 1, 1]), (1, [1, 0, 1, 1]), (0, [1, 1, 1])], ⟨20, [(3, .h (.int .i64)), (7, .h (.list (.prod .str .str))), (8, .h (.int .i64)), (9, .h (.int .i64))], [], 64, []⟩, fun d => r d.1.1 d.1.2.1 d.1.2.2.1 d.1.2.2.2.1⟩
theorem F_message_Trace_b0_ok (fu : Nat) (d' : bden F_message_Trace_hp) (r0 : Int → (List ((List UInt8) × (List UInt8))) → Int → Int → Option Int) (h0 : LabOk (F_message_Trace_cx fu) (bput F_message_Trace_hp d') F_message_Trace_out (bodyOf Tryz.f17) (F_message_Trace_l0 r0)) : LabOk (F_message_Trace_cx fu) (bput F_message_Trace_hp d') F_message_Trace_out (bodyOf Tryz.f17) (F_message_Trace_l0 (F_message_Trace_b0 fu r0)) :=
  LabOk.of_run (labs := [F_message_Trace_l0 (r0)]) (F_message_Trace_cxok fu) (fun _ _ h => idsB_look h) (labs1 h0 labs0) (fun d => by kernel_rfl)
theorem F_message_Trace_p0_ok (fu : Nat) (d' : bden F_message_Trace_hp) : ∀ n, LabOk (F_message_Trace_cx fu) (bput F_message_Trace_hp d') F_message_Trace_out (bodyOf Tryz.f17) (F_message_Trace_l0 (F_message_Trace_p0 fu n))
  | 0 => fun _ _ h => by cases h
  | n + 1 => F_message_Trace_b0_ok fu d' (F_message_Trace_p0 fu n) (F_message_Trace_p0_ok fu d' n)
theorem F_message_Trace_ok (fu : Nat) : (F_message_Trace_ent (F_message_Trace fu)).Sound Tryz.prog :=
  Ent.sound_fn (cx := F_message_Trace_cx fu) (labs := [F_message_Trace_l0 (F_message_Trace_p0 fu fu)]) (F_message_Trace_cxok fu) rfl rfl rfl rfl Tryz.call17 (by kernel_rfl) (fun d' => (labs1 (F_message_Trace_p0_ok fu d' fu) labs0)) (fun d d' => by kernel_rfl)
end Go.Sym
