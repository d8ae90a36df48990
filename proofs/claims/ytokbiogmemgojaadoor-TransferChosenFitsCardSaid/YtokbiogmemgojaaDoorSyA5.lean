/- What the claim rests on, part 5: gathered texts. -/
import Derived.Test.YtokbiogmemgojaaDoorSyA4
/- The Go functions compute the plain functions: printed by a program; each is reckoned by the kernel. -/
namespace Go.Sym
open Go.Proofs
set_option linter.unusedVariables false
set_option maxRecDepth 100000
/- posthouse/posthouseref1.Quoted -/
def F_R1_Quoted_out : RS ((List UInt8)) := .one (α := (List UInt8)) (.own 0) [(0, .row .byte 5)] (fun r => ((), (r, ()))) (fun y => y.2.1) (fun _ => rfl)
def F_R1_Quoted_hp : List (Nat × BPt) := []
def F_R1_Quoted_args : List Pt := [.h (.list .byte)]
def F_R1_Quoted_ent (r : (List UInt8) → Option ((List UInt8))) : Ent := { key := .fn 18, args := F_R1_Quoted_args, hp := F_R1_Quoted_hp, R := ((List UInt8)), F := fun d _ => r d.1, out := F_R1_Quoted_out }
noncomputable def F_R1_Quoted_cx (fu : Nat) : Cx := { P := Tryd.prog, tb := ⟨[F_R1_Crlf_ent F_R1_Crlf, F_R1_LineUnits_ent (F_R1_LineUnits fu)], etys, false⟩, fn := Tryd.f18, f := 18, ids := idsB F_R1_Quoted_hp, rd := none, tags := [] }
theorem F_R1_Quoted_cxok (fu : Nat) : (F_R1_Quoted_cx fu).Ok (bodyOf Tryd.f18) := ⟨(ents1 F_R1_Crlf_ok (ents1 (F_R1_LineUnits_ok fu) ents0)), Tryd_mixed, Tryd.func18, tags0⟩
def F_R1_Quoted_l3 (r : (List UInt8) → (List UInt8) → Int → Int → Option ((List UInt8))) : Lab ((List UInt8)) := ⟨[(0, [0, 1, 0, 0, 0, 1, 0, 1, 0, 0, 1, 0, 1, 1]), (1, [1, 0, 0, 0, 1, 0, 1, 0, 0, 1, 0, 1, 1]), (2, [0, 0, 1, 0, 1, 0, 0, 1, 0, 1, 1]), (1, [0, 1, 0, 1, 0, 0, 1, 0, 1, 1]), (0, [1, 1, 0, 1, 0, 0, 1, 0, 1, 1]), (1, [1, 0, 0, 1, 0, 1, 1]), (2, [0, 1, 0, 1, 1]), (1, [1, 0, 1, 1]), (0, [1, 1, 1])], ⟨77, [(0, .h (.list .byte)), (3, .h .str), (4, .h (.int .i64)), (5, .h (.int .i64))], [], 64, []⟩, fun d => r d.1.1 d.1.2.1 d.1.2.2.1 d.1.2.2.2.1⟩
def F_R1_Quoted_l7 (r : (List UInt8) → (List UInt8) → Int → Int → Int → (List (List UInt8)) → Option ((List UInt8))) : Lab ((List UInt8)) := ⟨[(0, [1, 1, 0, 0, 1, 0, 1, 1, 1, 1, 0, 1, 0, 0, 1, 0, 1, 1]), (2, [0, 1, 0, 1, 1, 1, 1, 0, 1, 0, 0, 1, 0, 1, 1]), (1, [1, 0, 1, 1, 1, 1, 0, 1, 0, 0, 1, 0, 1, 1]), (0, [1, 1, 1, 1, 1, 0, 1, 0, 0, 1, 0, 1, 1]), (1, [1, 0, 0, 1, 0, 1, 1]), (2, [0, 1, 0, 1, 1]), (1, [1, 0, 1, 1]), (0, [1, 1, 1])], ⟨77, [(0, .h (.list .byte)), (3, .h .str), (5, .h (.int .i64)), (6, .own 16), (7, .h (.int .i64)), (8, .h (.int .i64))], [(16, .row .str 9)], 64, []⟩, fun d => r d.1.1 d.1.2.1 d.1.2.2.1 d.1.2.2.2.2.1 d.1.2.2.2.2.2.1 d.2.1⟩
def F_R1_Quoted_l6 (r : (List UInt8) → (List UInt8) → Int → Int → Int → (List (List UInt8)) → Option ((List UInt8))) : Lab ((List UInt8)) := ⟨[(0, [0, 1, 1, 1, 0, 0, 1, 0, 0, 1, 0, 1, 1, 1, 1, 0, 1, 0, 0, 1, 0, 1, 1]), (0, [1, 1, 1, 1, 0, 0, 1, 0, 0, 1, 0, 1, 1, 1, 1, 0, 1, 0, 0, 1, 0, 1, 1]), (1, [0, 1, 0, 0, 1, 0, 1, 1, 1, 1, 0, 1, 0, 0, 1, 0, 1, 1]), (0, [1, 1, 0, 0, 1, 0, 1, 1, 1, 1, 0, 1, 0, 0, 1, 0, 1, 1]), (2, [0, 1, 0, 1, 1, 1, 1, 0, 1, 0, 0, 1, 0, 1, 1]), (1, [1, 0, 1, 1, 1, 1, 0, 1, 0, 0, 1, 0, 1, 1]), (0, [1, 1, 1, 1, 1, 0, 1, 0, 0, 1, 0, 1, 1]), (1, [1, 0, 0, 1, 0, 1, 1]), (2, [0, 1, 0, 1, 1]), (1, [1, 0, 1, 1]), (0, [1, 1, 1])], ⟨77, [(0, .h (.list .byte)), (3, .h .str), (5, .h (.int .i64)), (6, .own 16), (7, .h (.int .i64)), (8, .h (.int .i64))], [(16, .row .str 9)], 64, []⟩, fun d => r d.1.1 d.1.2.1 d.1.2.2.1 d.1.2.2.2.2.1 d.1.2.2.2.2.2.1 d.2.1⟩
def F_R1_Quoted_l5 (r : (List UInt8) → (List UInt8) → Int → Int → Int → Int → (List (List UInt8)) → Option ((List UInt8))) : Lab ((List UInt8)) := ⟨[(0, [0, 0, 1, 1, 0, 0, 1, 0, 0, 1, 0, 1, 1, 1, 1, 0, 1, 0, 0, 1, 0, 1, 1]), (0, [1, 0, 1, 1, 0, 0, 1, 0, 0, 1, 0, 1, 1, 1, 1, 0, 1, 0, 0, 1, 0, 1, 1]), (0, [1, 1, 1, 0, 0, 1, 0, 0, 1, 0, 1, 1, 1, 1, 0, 1, 0, 0, 1, 0, 1, 1]), (1, [0, 1, 0, 0, 1, 0, 1, 1, 1, 1, 0, 1, 0, 0, 1, 0, 1, 1]), (0, [1, 1, 0, 0, 1, 0, 1, 1, 1, 1, 0, 1, 0, 0, 1, 0, 1, 1]), (2, [0, 1, 0, 1, 1, 1, 1, 0, 1, 0, 0, 1, 0, 1, 1]), (1, [1, 0, 1, 1, 1, 1, 0, 1, 0, 0, 1, 0, 1, 1]), (0, [1, 1, 1, 1, 1, 0, 1, 0, 0, 1, 0, 1, 1]), (1, [1, 0, 0, 1, 0, 1, 1]), (2, [0, 1, 0, 1, 1]), (1, [1, 0, 1, 1]), (0, [1, 1, 1])], ⟨77, [(0, .h (.list .byte)), (3, .h .str), (5, .h (.int .i64)), (6, .own 16), (7, .h (.int .i64)), (8, .h (.int .i64)), (9, .h (.int .i64))], [(16, .row .str 9)], 64, []⟩, fun d => r d.1.1 d.1.2.1 d.1.2.2.1 d.1.2.2.2.2.1 d.1.2.2.2.2.2.1 d.1.2.2.2.2.2.2.1 d.2.1⟩
def F_R1_Quoted_l4 (r : (List UInt8) → (List UInt8) → Int → Int → Int → (List (List UInt8)) → Option ((List UInt8))) : Lab ((List UInt8)) := ⟨[(0, [0, 0, 0, 0, 1, 0, 1, 1, 1, 1, 0, 1, 0, 0, 1, 0, 1, 1]), (0, [1, 0, 0, 0, 1, 0, 1, 1, 1, 1, 0, 1, 0, 0, 1, 0, 1, 1]), (0, [1, 0, 0, 1, 0, 1, 1, 1, 1, 0, 1, 0, 0, 1, 0, 1, 1]), (2, [0, 1, 0, 1, 1, 1, 1, 0, 1, 0, 0, 1, 0, 1, 1]), (1, [1, 0, 1, 1, 1, 1, 0, 1, 0, 0, 1, 0, 1, 1]), (0, [1, 1, 1, 1, 1, 0, 1, 0, 0, 1, 0, 1, 1]), (1, [1, 0, 0, 1, 0, 1, 1]), (2, [0, 1, 0, 1, 1]), (1, [1, 0, 1, 1]), (0, [1, 1, 1])], ⟨77, [(0, .h (.list .byte)), (3, .h .str), (5, .h (.int .i64)), (6, .own 16), (7, .h (.int .i64)), (8, .h (.int .i64))], [(16, .row .str 9)], 64, []⟩, fun d => r d.1.1 d.1.2.1 d.1.2.2.1 d.1.2.2.2.2.1 d.1.2.2.2.2.2.1 d.2.1⟩
def F_R1_Quoted_l2 (r : (List UInt8) → (List UInt8) → Int → Int → Bool → Option ((List UInt8))) : Lab ((List UInt8)) := ⟨[(0, [1, 0, 0, 0, 0, 1, 0, 1, 0, 0, 1, 0, 1, 1]), (0, [1, 0, 0, 0, 1, 0, 1, 0, 0, 1, 0, 1, 1]), (2, [0, 0, 1, 0, 1, 0, 0, 1, 0, 1, 1]), (1, [0, 1, 0, 1, 0, 0, 1, 0, 1, 1]), (0, [1, 1, 0, 1, 0, 0, 1, 0, 1, 1]), (1, [1, 0, 0, 1, 0, 1, 1]), (2, [0, 1, 0, 1, 1]), (1, [1, 0, 1, 1]), (0, [1, 1, 1])], ⟨77, [(0, .h (.list .byte)), (3, .h .str), (4, .h (.int .i64)), (5, .h (.int .i64)), (24, .h .bool)], [], 64, []⟩, fun d => r d.1.1 d.1.2.1 d.1.2.2.1 d.1.2.2.2.1 d.1.2.2.2.2.1⟩
def F_R1_Quoted_l1 (r : (List UInt8) → (List UInt8) → Int → Int → Option ((List UInt8))) : Lab ((List UInt8)) := ⟨[(0, [0, 0, 0, 0, 0, 1, 0, 1, 0, 0, 1, 0, 1, 1]), (0, [1, 0, 0, 0, 0, 1, 0, 1, 0, 0, 1, 0, 1, 1]), (0, [1, 0, 0, 0, 1, 0, 1, 0, 0, 1, 0, 1, 1]), (2, [0, 0, 1, 0, 1, 0, 0, 1, 0, 1, 1]), (1, [0, 1, 0, 1, 0, 0, 1, 0, 1, 1]), (0, [1, 1, 0, 1, 0, 0, 1, 0, 1, 1]), (1, [1, 0, 0, 1, 0, 1, 1]), (2, [0, 1, 0, 1, 1]), (1, [1, 0, 1, 1]), (0, [1, 1, 1])], ⟨77, [(0, .h (.list .byte)), (3, .h .str), (4, .h (.int .i64)), (5, .h (.int .i64))], [], 64, []⟩, fun d => r d.1.1 d.1.2.1 d.1.2.2.1 d.1.2.2.2.1⟩
def F_R1_Quoted_l0 (r : (List UInt8) → (List UInt8) → Int → Option ((List UInt8))) : Lab ((List UInt8)) := ⟨[(0, [0, 0, 0, 0, 1, 0, 1, 1]), (0, [1, 0, 0, 0, 1, 0, 1, 1]), (0, [1, 0, 0, 1, 0, 1, 1]), (2, [0, 1, 0, 1, 1]), (1, [1, 0, 1, 1]), (0, [1, 1, 1])], ⟨77, [(0, .h (.list .byte)), (3, .h .str), (4, .h (.int .i64))], [], 64, []⟩, fun d => r d.1.1 d.1.2.1 d.1.2.2.1⟩
theorem F_R1_Quoted_p3_ok (fu : Nat) (d' : bden F_R1_Quoted_hp) (r0 : (List UInt8) → (List UInt8) → Int → Option ((List UInt8))) (h0 : LabOk (F_R1_Quoted_cx fu) (bput F_R1_Quoted_hp d') F_R1_Quoted_out (bodyOf Tryd.f18) (F_R1_Quoted_l0 r0)) (r1 : (List UInt8) → (List UInt8) → Int → Int → Option ((List UInt8))) (h1 : LabOk (F_R1_Quoted_cx fu) (bput F_R1_Quoted_hp d') F_R1_Quoted_out (bodyOf Tryd.f18) (F_R1_Quoted_l1 r1)) : LabOk (F_R1_Quoted_cx fu) (bput F_R1_Quoted_hp d') F_R1_Quoted_out (bodyOf Tryd.f18) (F_R1_Quoted_l3 (F_R1_Quoted_p3 fu r0 r1)) :=
  LabOk.of_run (labs := [F_R1_Quoted_l1 (r1)]) (F_R1_Quoted_cxok fu) (fun _ _ h => idsB_look h) (labs1 h1 labs0) (fun d => by kernel_rfl)
theorem F_R1_Quoted_p7_ok (fu : Nat) (d' : bden F_R1_Quoted_hp) (r0 : (List UInt8) → (List UInt8) → Int → Option ((List UInt8))) (h0 : LabOk (F_R1_Quoted_cx fu) (bput F_R1_Quoted_hp d') F_R1_Quoted_out (bodyOf Tryd.f18) (F_R1_Quoted_l0 r0)) (r4 : (List UInt8) → (List UInt8) → Int → Int → Int → (List (List UInt8)) → Option ((List UInt8))) (h4 : LabOk (F_R1_Quoted_cx fu) (bput F_R1_Quoted_hp d') F_R1_Quoted_out (bodyOf Tryd.f18) (F_R1_Quoted_l4 r4)) : LabOk (F_R1_Quoted_cx fu) (bput F_R1_Quoted_hp d') F_R1_Quoted_out (bodyOf Tryd.f18) (F_R1_Quoted_l7 (F_R1_Quoted_p7 fu r0 r4)) :=
  LabOk.of_run (labs := [F_R1_Quoted_l4 (r4)]) (F_R1_Quoted_cxok fu) (fun _ _ h => idsB_look h) (labs1 h4 labs0) (fun d => by kernel_rfl)
theorem F_R1_Quoted_p6_ok (fu : Nat) (d' : bden F_R1_Quoted_hp) (r0 : (List UInt8) → (List UInt8) → Int → Option ((List UInt8))) (h0 : LabOk (F_R1_Quoted_cx fu) (bput F_R1_Quoted_hp d') F_R1_Quoted_out (bodyOf Tryd.f18) (F_R1_Quoted_l0 r0)) (r4 : (List UInt8) → (List UInt8) → Int → Int → Int → (List (List UInt8)) → Option ((List UInt8))) (h4 : LabOk (F_R1_Quoted_cx fu) (bput F_R1_Quoted_hp d') F_R1_Quoted_out (bodyOf Tryd.f18) (F_R1_Quoted_l4 r4)) : LabOk (F_R1_Quoted_cx fu) (bput F_R1_Quoted_hp d') F_R1_Quoted_out (bodyOf Tryd.f18) (F_R1_Quoted_l6 (F_R1_Quoted_p6 fu r0 r4)) :=
  LabOk.of_run (labs := [F_R1_Quoted_l7 (F_R1_Quoted_p7 fu r0 r4)]) (F_R1_Quoted_cxok fu) (fun _ _ h => idsB_look h) (labs1 (F_R1_Quoted_p7_ok fu d' r0 h0 r4 h4) labs0) (fun d => by kernel_rfl)
theorem F_R1_Quoted_p5_ok (fu : Nat) (d' : bden F_R1_Quoted_hp) (r0 : (List UInt8) → (List UInt8) → Int → Option ((List UInt8))) (h0 : LabOk (F_R1_Quoted_cx fu) (bput F_R1_Quoted_hp d') F_R1_Quoted_out (bodyOf Tryd.f18) (F_R1_Quoted_l0 r0)) (r4 : (List UInt8) → (List UInt8) → Int → Int → Int → (List (List UInt8)) → Option ((List UInt8))) (h4 : LabOk (F_R1_Quoted_cx fu) (bput F_R1_Quoted_hp d') F_R1_Quoted_out (bodyOf Tryd.f18) (F_R1_Quoted_l4 r4)) : LabOk (F_R1_Quoted_cx fu) (bput F_R1_Quoted_hp d') F_R1_Quoted_out (bodyOf Tryd.f18) (F_R1_Quoted_l5 (F_R1_Quoted_p5 fu r0 r4)) :=
  LabOk.of_run (labs := [F_R1_Quoted_l6 (F_R1_Quoted_p6 fu r0 r4)]) (F_R1_Quoted_cxok fu) (fun _ _ h => idsB_look h) (labs1 (F_R1_Quoted_p6_ok fu d' r0 h0 r4 h4) labs0) (fun d => by kernel_rfl)
theorem F_R1_Quoted_b4_ok (fu : Nat) (d' : bden F_R1_Quoted_hp) (r0 : (List UInt8) → (List UInt8) → Int → Option ((List UInt8))) (h0 : LabOk (F_R1_Quoted_cx fu) (bput F_R1_Quoted_hp d') F_R1_Quoted_out (bodyOf Tryd.f18) (F_R1_Quoted_l0 r0)) (r4 : (List UInt8) → (List UInt8) → Int → Int → Int → (List (List UInt8)) → Option ((List UInt8))) (h4 : LabOk (F_R1_Quoted_cx fu) (bput F_R1_Quoted_hp d') F_R1_Quoted_out (bodyOf Tryd.f18) (F_R1_Quoted_l4 r4)) : LabOk (F_R1_Quoted_cx fu) (bput F_R1_Quoted_hp d') F_R1_Quoted_out (bodyOf Tryd.f18) (F_R1_Quoted_l4 (F_R1_Quoted_b4 fu r0 r4)) :=
  LabOk.of_run (labs := [F_R1_Quoted_l5 (F_R1_Quoted_p5 fu r0 r4), F_R1_Quoted_l0 (r0)]) (F_R1_Quoted_cxok fu) (fun _ _ h => idsB_look h) (labs1 (F_R1_Quoted_p5_ok fu d' r0 h0 r4 h4) (labs1 h0 labs0)) (fun d => by kernel_rfl)
theorem F_R1_Quoted_p4_ok (fu : Nat) (d' : bden F_R1_Quoted_hp) (r0 : (List UInt8) → (List UInt8) → Int → Option ((List UInt8))) (h0 : LabOk (F_R1_Quoted_cx fu) (bput F_R1_Quoted_hp d') F_R1_Quoted_out (bodyOf Tryd.f18) (F_R1_Quoted_l0 r0)) : ∀ n, LabOk (F_R1_Quoted_cx fu) (bput F_R1_Quoted_hp d') F_R1_Quoted_out (bodyOf Tryd.f18) (F_R1_Quoted_l4 (F_R1_Quoted_p4 fu r0 n))
  | 0 => fun _ _ h => by cases h
  | n + 1 => F_R1_Quoted_b4_ok fu d' r0 h0 (F_R1_Quoted_p4 fu r0 n) (F_R1_Quoted_p4_ok fu d' r0 h0 n)
theorem F_R1_Quoted_p2_ok (fu : Nat) (d' : bden F_R1_Quoted_hp) (r0 : (List UInt8) → (List UInt8) → Int → Option ((List UInt8))) (h0 : LabOk (F_R1_Quoted_cx fu) (bput F_R1_Quoted_hp d') F_R1_Quoted_out (bodyOf Tryd.f18) (F_R1_Quoted_l0 r0)) (r1 : (List UInt8) → (List UInt8) → Int → Int → Option ((List UInt8))) (h1 : LabOk (F_R1_Quoted_cx fu) (bput F_R1_Quoted_hp d') F_R1_Quoted_out (bodyOf Tryd.f18) (F_R1_Quoted_l1 r1)) : LabOk (F_R1_Quoted_cx fu) (bput F_R1_Quoted_hp d') F_R1_Quoted_out (bodyOf Tryd.f18) (F_R1_Quoted_l2 (F_R1_Quoted_p2 fu r0 r1)) :=
  LabOk.of_run (labs := [F_R1_Quoted_l3 (F_R1_Quoted_p3 fu r0 r1), F_R1_Quoted_l4 (F_R1_Quoted_p4 fu r0 fu)]) (F_R1_Quoted_cxok fu) (fun _ _ h => idsB_look h) (labs1 (F_R1_Quoted_p3_ok fu d' r0 h0 r1 h1) (labs1 (F_R1_Quoted_p4_ok fu d' r0 h0 fu) labs0)) (fun d => by kernel_rfl)
theorem F_R1_Quoted_b1_ok (fu : Nat) (d' : bden F_R1_Quoted_hp) (r0 : (List UInt8) → (List UInt8) → Int → Option ((List UInt8))) (h0 : LabOk (F_R1_Quoted_cx fu) (bput F_R1_Quoted_hp d') F_R1_Quoted_out (bodyOf Tryd.f18) (F_R1_Quoted_l0 r0)) (r1 : (List UInt8) → (List UInt8) → Int → Int → Option ((List UInt8))) (h1 : LabOk (F_R1_Quoted_cx fu) (bput F_R1_Quoted_hp d') F_R1_Quoted_out (bodyOf Tryd.f18) (F_R1_Quoted_l1 r1)) : LabOk (F_R1_Quoted_cx fu) (bput F_R1_Quoted_hp d') F_R1_Quoted_out (bodyOf Tryd.f18) (F_R1_Quoted_l1 (F_R1_Quoted_b1 fu r0 r1)) :=
  LabOk.of_run (labs := [F_R1_Quoted_l2 (F_R1_Quoted_p2 fu r0 r1)]) (F_R1_Quoted_cxok fu) (fun _ _ h => idsB_look h) (labs1 (F_R1_Quoted_p2_ok fu d' r0 h0 r1 h1) labs0) (fun d => by kernel_rfl)
theorem F_R1_Quoted_p1_ok (fu : Nat) (d' : bden F_R1_Quoted_hp) (r0 : (List UInt8) → (List UInt8) → Int → Option ((List UInt8))) (h0 : LabOk (F_R1_Quoted_cx fu) (bput F_R1_Quoted_hp d') F_R1_Quoted_out (bodyOf Tryd.f18) (F_R1_Quoted_l0 r0)) : ∀ n, LabOk (F_R1_Quoted_cx fu) (bput F_R1_Quoted_hp d') F_R1_Quoted_out (bodyOf Tryd.f18) (F_R1_Quoted_l1 (F_R1_Quoted_p1 fu r0 n))
  | 0 => fun _ _ h => by cases h
  | n + 1 => F_R1_Quoted_b1_ok fu d' r0 h0 (F_R1_Quoted_p1 fu r0 n) (F_R1_Quoted_p1_ok fu d' r0 h0 n)
theorem F_R1_Quoted_b0_ok (fu : Nat) (d' : bden F_R1_Quoted_hp) (r0 : (List UInt8) → (List UInt8) → Int → Option ((List UInt8))) (h0 : LabOk (F_R1_Quoted_cx fu) (bput F_R1_Quoted_hp d') F_R1_Quoted_out (bodyOf Tryd.f18) (F_R1_Quoted_l0 r0)) : LabOk (F_R1_Quoted_cx fu) (bput F_R1_Quoted_hp d') F_R1_Quoted_out (bodyOf Tryd.f18) (F_R1_Quoted_l0 (F_R1_Quoted_b0 fu r0)) :=
  LabOk.of_run (labs := [F_R1_Quoted_l1 (F_R1_Quoted_p1 fu r0 fu)]) (F_R1_Quoted_cxok fu) (fun _ _ h => idsB_look h) (labs1 (F_R1_Quoted_p1_ok fu d' r0 h0 fu) labs0) (fun d => by kernel_rfl)
theorem F_R1_Quoted_p0_ok (fu : Nat) (d' : bden F_R1_Quoted_hp) : ∀ n, LabOk (F_R1_Quoted_cx fu) (bput F_R1_Quoted_hp d') F_R1_Quoted_out (bodyOf Tryd.f18) (F_R1_Quoted_l0 (F_R1_Quoted_p0 fu n))
  | 0 => fun _ _ h => by cases h
  | n + 1 => F_R1_Quoted_b0_ok fu d' (F_R1_Quoted_p0 fu n) (F_R1_Quoted_p0_ok fu d' n)
theorem F_R1_Quoted_ok (fu : Nat) : (F_R1_Quoted_ent (F_R1_Quoted fu)).Sound Tryd.prog :=
  Ent.sound_fn (cx := F_R1_Quoted_cx fu) (labs := [F_R1_Quoted_l0 (F_R1_Quoted_p0 fu fu)]) (F_R1_Quoted_cxok fu) rfl rfl rfl rfl Tryd.call18 (by kernel_rfl) (fun d' => (labs1 (F_R1_Quoted_p0_ok fu d' fu) labs0)) (fun d d' => by kernel_rfl)
/- posthouse/posthouseref2.Transferred -/
def F_R2_Transferred_out : RS ((List UInt8)) := .one (α := (List UInt8)) (.h (.list .byte)) [] (fun r => (r, ())) (fun y => y.1) (fun _ => rfl)
def F_R2_Transferred_hp : List (Nat × BPt) := []
def F_R2_Transferred_args : List Pt := [.h (.list .byte), .h (.int .i64)]
def F_R2_Transferred_ent (r : (List UInt8) → Int → Option ((List UInt8))) : Ent := { key := .fn 14, args := F_R2_Transferred_args, hp := F_R2_Transferred_hp, R := ((List UInt8)), F := fun d _ => r d.1 d.2.1, out := F_R2_Transferred_out }
noncomputable def F_R2_Transferred_cx (fu : Nat) : Cx := { P := Tryd.prog, tb := ⟨[F_R1_Lines64_ent (F_R1_Lines64 fu), F_R1_Quoted_ent (F_R1_Quoted fu)], etys, false⟩, fn := Tryd.f14, f := 14, ids := idsB F_R2_Transferred_hp, rd := none, tags := [] }
theorem F_R2_Transferred_cxok (fu : Nat) : (F_R2_Transferred_cx fu).Ok (bodyOf Tryd.f14) := ⟨(ents1 (F_R1_Lines64_ok fu) (ents1 (F_R1_Quoted_ok fu) ents0)), Tryd_mixed, Tryd.func14, tags0⟩
theorem F_R2_Transferred_ok (fu : Nat) : (F_R2_Transferred_ent (F_R2_Transferred fu)).Sound Tryd.prog :=
  Ent.sound_fn (cx := F_R2_Transferred_cx fu) (labs := []) (F_R2_Transferred_cxok fu) rfl rfl rfl rfl Tryd.call14 (by kernel_rfl) (fun _ => labs0) (fun d d' => by kernel_rfl)
/- posthouse/posthouseref1.Bytes -/
def F_R1_Bytes_out : RS Bool := .one (α := Bool) (.h .bool) [] (fun r => (r, ())) (fun y => y.1) (fun _ => rfl)
def F_R1_Bytes_hp : List (Nat × BPt) := []
def F_R1_Bytes_args : List Pt := [.h (.list .byte), .h (.list .byte)]
def F_R1_Bytes_ent (r : (List UInt8) → (List UInt8) → Option Bool) : Ent := { key := .fn 13, args := F_R1_Bytes_args, hp := F_R1_Bytes_hp, R := Bool, F := fun d _ => r d.1 d.2.1, out := F_R1_Bytes_out }
noncomputable def F_R1_Bytes_cx : Cx := { P := Tryd.prog, tb := ⟨[], etys, false⟩, fn := Tryd.f13, f := 13, ids := idsB F_R1_Bytes_hp, rd := none, tags := [] }
theorem F_R1_Bytes_cxok : (F_R1_Bytes_cx).Ok (bodyOf Tryd.f13) := ⟨ents0, Tryd_mixed, Tryd.func13, tags0⟩
theorem F_R1_Bytes_ok : (F_R1_Bytes_ent (F_R1_Bytes)).Sound Tryd.prog :=
  Ent.sound_fn (cx := F_R1_Bytes_cx) (labs := []) (F_R1_Bytes_cxok) rfl rfl rfl rfl Tryd.call13 (by kernel_rfl) (fun _ => labs0) (fun d d' => by kernel_rfl)
/- posthouse/posthouselaw2.TransferEncodeMatchesSpec -/
def F_W2_TransferEncodeMatchesSpec_out : RS Bool := .one (α := Bool) (.h .bool) [] (fun r => (r, ())) (fun y => y.1) (fun _ => rfl)
def F_W2_TransferEncodeMatchesSpec_hp : List (Nat × BPt) := []
def F_W2_TransferEncodeMatchesSpec_args : List Pt := [.h (.list .byte), .h .str]
def F_W2_TransferEncodeMatchesSpec_ent (r : (List UInt8) → (List UInt8) → Option Bool) : Ent := { key := .fn 3, args := F_W2_TransferEncodeMatchesSpec_args, hp := F_W2_TransferEncodeMatchesSpec_hp, R := Bool, F := fun d _ => r d.1 d.2.1, out := F_W2_TransferEncodeMatchesSpec_out }
noncomputable def F_W2_TransferEncodeMatchesSpec_cx (fu : Nat) : Cx := { P := Tryd.prog, tb := ⟨[F_W2_transferExample_ent (F_W2_transferExample fu), F_transfer_Encode_ent (F_transfer_Encode fu), F_R2_CodingOf_ent (F_R2_CodingOf fu), F_R1_At_ent F_R1_At, F_R2_Refused_ent (F_R2_Refused fu), F_R2_Transferred_ent (F_R2_Transferred fu), F_R1_Bytes_ent F_R1_Bytes], etys, false⟩, fn := Tryd.f3, f := 3, ids := idsB F_W2_TransferEncodeMatchesSpec_hp, rd := none, tags := [] }
theorem F_W2_TransferEncodeMatchesSpec_cxok (fu : Nat) : (F_W2_TransferEncodeMatchesSpec_cx fu).Ok (bodyOf Tryd.f3) := ⟨(ents1 (F_W2_transferExample_ok fu) (ents1 (F_transfer_Encode_ok fu) (ents1 (F_R2_CodingOf_ok fu) (ents1 F_R1_At_ok (ents1 (F_R2_Refused_ok fu) (ents1 (F_R2_Transferred_ok fu) (ents1 F_R1_Bytes_ok ents0))))))), Tryd_mixed, Tryd.func3, tags0⟩
def F_W2_TransferEncodeMatchesSpec_l0 (r : (List UInt8) → Int → Bool → (List UInt8) → (Int × Int) → Option Bool) : Lab Bool := ⟨[(0, [1, 0, 1, 1, 1, 1, 1, 1]), (0, [1, 1, 1, 1, 1, 1, 1])], ⟨70, [(0, .h (.list .byte)), (5, .own 16), (6, .ptr 17 0), (7, .h (.int .i64)), (47, .h .bool)], [(16, .row .byte 5), (17, .dat (.prod (.int .i64) (.int .i64)) 25)], 64, []⟩, fun d => r d.1.1 d.1.2.2.2.1 d.1.2.2.2.2.1 d.2.1 d.2.2.1⟩
theorem F_W2_TransferEncodeMatchesSpec_p0_ok (fu : Nat) (d' : bden F_W2_TransferEncodeMatchesSpec_hp) : LabOk (F_W2_TransferEncodeMatchesSpec_cx fu) (bput F_W2_TransferEncodeMatchesSpec_hp d') F_W2_TransferEncodeMatchesSpec_out (bodyOf Tryd.f3) (F_W2_TransferEncodeMatchesSpec_l0 (F_W2_TransferEncodeMatchesSpec_p0 fu)) :=
  LabOk.of_run (labs := []) (F_W2_TransferEncodeMatchesSpec_cxok fu) (fun _ _ h => idsB_look h) labs0 (fun d => by kernel_rfl)
theorem F_W2_TransferEncodeMatchesSpec_ok (fu : Nat) : (F_W2_TransferEncodeMatchesSpec_ent (F_W2_TransferEncodeMatchesSpec fu)).Sound Tryd.prog :=
  Ent.sound_fn (cx := F_W2_TransferEncodeMatchesSpec_cx fu) (labs := [F_W2_TransferEncodeMatchesSpec_l0 (F_W2_TransferEncodeMatchesSpec_p0 fu)]) (F_W2_TransferEncodeMatchesSpec_cxok fu) rfl rfl rfl rfl Tryd.call3 (by kernel_rfl) (fun d' => (labs1 (F_W2_TransferEncodeMatchesSpec_p0_ok fu d') labs0)) (fun d d' => by kernel_rfl)
/- posthouse/posthouseref1.value64 -/
def F_R1_value64_out : RS Int := .one (α := Int) (.h (.int .i64)) [] (fun r => (r, ())) (fun y => y.1) (fun _ => rfl)
def F_R1_value64_hp : List (Nat × BPt) := []
def F_R1_value64_args : List Pt := [.h .byte]
def F_R1_value64_ent (r : UInt8 → Option Int) : Ent := { key := .fn 35, args := F_R1_value64_args, hp := F_R1_value64_hp, R := Int, F := fun d _ => r d.1, out := F_R1_value64_out }
noncomputable def F_R1_value64_cx (fu : Nat) : Cx := { P := Tryd.prog, tb := ⟨[], etys, false⟩, fn := Tryd.f35, f := 35, ids := idsB F_R1_value64_hp, rd := none, tags := [] }
theorem F_R1_value64_cxok (fu : Nat) : (F_R1_value64_cx fu).Ok (bodyOf Tryd.f35) := ⟨ents0, Tryd_mixed, Tryd.func35, tags0⟩
def F_R1_value64_l0 (r : UInt8 → Int → Option Int) : Lab Int := ⟨[(0, [0, 0, 0, 0, 1, 0, 1]), (0, [1, 0, 0, 0, 1, 0, 1]), (0, [1, 0, 0, 1, 0, 1]), (2, [0, 1, 0, 1]), (1, [1, 0, 1]), (0, [1, 1])], ⟨13, [(0, .h .byte), (3, .h (.int .i64))], [], 64, []⟩, fun d => r d.1.1 d.1.2.1⟩
theorem F_R1_value64_b0_ok (fu : Nat) (d' : bden F_R1_value64_hp) (r0 : UInt8 → Int → Option Int) (h0 : LabOk (F_R1_value64_cx fu) (bput F_R1_value64_hp d') F_R1_value64_out (bodyOf Tryd.f35) (F_R1_value64_l0 r0)) : LabOk (F_R1_value64_cx fu) (bput F_R1_value64_hp d') F_R1_value64_out (bodyOf Tryd.f35) (F_R1_value64_l0 (F_R1_value64_b0 fu r0)) :=
  LabOk.of_run (labs := [F_R1_value64_l0 (r0)]) (F_R1_value64_cxok fu) (fun _ _ h => idsB_look h) (labs1 h0 labs0) (fun d => by kernel_rfl)
theorem F_R1_value64_p0_ok (fu : Nat) (d' : bden F_R1_value64_hp) : ∀ n, LabOk (F_R1_value64_cx fu) (bput F_R1_value64_hp d') F_R1_value64_out (bodyOf Tryd.f35) (F_R1_value64_l0 (F_R1_value64_p0 fu n))
  | 0 => fun _ _ h => by cases h
  | n + 1 => F_R1_value64_b0_ok fu d' (F_R1_value64_p0 fu n) (F_R1_value64_p0_ok fu d' n)
theorem F_R1_value64_ok (fu : Nat) : (F_R1_value64_ent (F_R1_value64 fu)).Sound Tryd.prog :=
  Ent.sound_fn (cx := F_R1_value64_cx fu) (labs := [F_R1_value64_l0 (F_R1_value64_p0 fu fu)]) (F_R1_value64_cxok fu) rfl rfl rfl rfl Tryd.call35 (by kernel_rfl) (fun d' => (labs1 (F_R1_value64_p0_ok fu d' fu) labs0)) (fun d d' => by kernel_rfl)
/- posthouse/posthouseref1.Loose64 -/
def F_R1_Loose64_out : RS ((List UInt8)) := .one (α := (List UInt8)) (.own 0) [(0, .row .byte 5)] (fun r => ((), (r, ()))) (fun y => y.2.1) (fun _ => rfl)
def F_R1_Loose64_hp : List (Nat × BPt) := []
def F_R1_Loose64_args : List Pt := [.h (.list .byte)]
def F_R1_Loose64_ent (r : (List UInt8) → Option ((List UInt8))) : Ent := { key := .fn 24, args := F_R1_Loose64_args, hp := F_R1_Loose64_hp, R := ((List UInt8)), F := fun d _ => r d.1, out := F_R1_Loose64_out }
noncomputable def F_R1_Loose64_cx (fu : Nat) : Cx := { P := Tryd.prog, tb := ⟨[F_R1_value64_ent (F_R1_value64 fu), F_R1_sum_ent (F_R1_sum fu)], etys, false⟩, fn := Tryd.f24, f := 24, ids := idsB F_R1_Loose64_hp, rd := none, tags := [] }
theorem F_R1_Loose64_cxok (fu : Nat) : (F_R1_Loose64_cx fu).Ok (bodyOf Tryd.f24) := ⟨(ents1 (F_R1_value64_ok fu) (ents1 (F_R1_sum_ok fu) ents0)), Tryd_mixed, Tryd.func24, tags0⟩
def F_R1_Loose64_l6 (r : (List UInt8) → Int → Int → Int → (List Int) → Option ((List UInt8))) : Lab ((List UInt8)) := ⟨[(0, [0, 0, 1, 0, 0, 1, 1, 0, 0, 1, 0, 0, 1, 0, 1, 1]), (1, [0, 1, 0, 0, 1, 1, 0, 0, 1, 0, 0, 1, 0, 1, 1]), (0, [1, 1, 0, 0, 1, 1, 0, 0, 1, 0, 0, 1, 0, 1, 1]), (2, [0, 1, 1, 0, 0, 1, 0, 0, 1, 0, 1, 1]), (1, [1, 1, 0, 0, 1, 0, 0, 1, 0, 1, 1]), (1, [0, 1, 0, 0, 1, 0, 1, 1]), (0, [1, 1, 0, 0, 1, 0, 1, 1]), (2, [0, 1, 0, 1, 1]), (1, [1, 0, 1, 1]), (0, [1, 1, 1])], ⟨61, [(0, .h (.list .byte)), (3, .own 16), (4, .h (.int .i64)), (5, .h (.int .i64)), (6, .h (.int .i64))], [(16, .row (.int .i64) 3)], 64, []⟩, fun d => r d.1.1 d.1.2.2.1 d.1.2.2.2.1 d.1.2.2.2.2.1 d.2.1⟩
def F_R1_Loose64_l5 (r : (List UInt8) → Int → Int → Int → Bool → (List Int) → Option ((List UInt8))) : Lab ((List UInt8)) := ⟨[(0, [1, 0, 0, 0, 1, 1, 0, 0, 1, 0, 0, 1, 0, 1, 1]), (0, [1, 0, 0, 1, 1, 0, 0, 1, 0, 0, 1, 0, 1, 1]), (2, [0, 1, 1, 0, 0, 1, 0, 0, 1, 0, 1, 1]), (1, [1, 1, 0, 0, 1, 0, 0, 1, 0, 1, 1]), (1, [0, 1, 0, 0, 1, 0, 1, 1]), (0, [1, 1, 0, 0, 1, 0, 1, 1]), (2, [0, 1, 0, 1, 1]), (1, [1, 0, 1, 1]), (0, [1, 1, 1])], ⟨61, [(0, .h (.list .byte)), (3, .own 16), (4, .h (.int .i64)), (5, .h (.int .i64)), (6, .h (.int .i64)), (32, .h .bool)], [(16, .row (.int .i64) 3)], 64, []⟩, fun d => r d.1.1 d.1.2.2.1 d.1.2.2.2.1 d.1.2.2.2.2.1 d.1.2.2.2.2.2.1 d.2.1⟩
def F_R1_Loose64_l4 (r : (List UInt8) → Int → Int → Int → (List Int) → Option ((List UInt8))) : Lab ((List UInt8)) := ⟨[(0, [0, 0, 0, 0, 1, 1, 0, 0, 1, 0, 0, 1, 0, 1, 1]), (0, [1, 0, 0, 0, 1, 1, 0, 0, 1, 0, 0, 1, 0, 1, 1]), (0, [1, 0, 0, 1, 1, 0, 0, 1, 0, 0, 1, 0, 1, 1]), (2, [0, 1, 1, 0, 0, 1, 0, 0, 1, 0, 1, 1]), (1, [1, 1, 0, 0, 1, 0, 0, 1, 0, 1, 1]), (1, [0, 1, 0, 0, 1, 0, 1, 1]), (0, [1, 1, 0, 0, 1, 0, 1, 1]), (2, [0, 1, 0, 1, 1]), (1, [1, 0, 1, 1]), (0, [1, 1, 1])], ⟨61, [(0, .h (.list .byte)), (3, .own 16), (4, .h (.int .i64)), (5, .h (.int .i64)), (6, .h (.int .i64))], [(16, .row (.int .i64) 3)], 64, []⟩, fun d => r d.1.1 d.1.2.2.1 d.1.2.2.2.1 d.1.2.2.2.2.1 d.2.1⟩
def F_R1_Loose64_l2 (r : (List UInt8) → Int → (List Int) → Option ((List UInt8))) : Lab ((List UInt8)) := ⟨[(0, [0, 0, 0, 1, 0, 0, 1, 0, 1, 1]), (0, [1, 0, 0, 1, 0, 0, 1, 0, 1, 1]), (1, [0, 1, 0, 0, 1, 0, 1, 1]), (0, [1, 1, 0, 0, 1, 0, 1, 1]), (2, [0, 1, 0, 1, 1]), (1, [1, 0, 1, 1]), (0, [1, 1, 1])], ⟨61, [(0, .h (.list .byte)), (3, .own 16), (4, .h (.int .i64))], [(16, .row (.int .i64) 3)], 64, []⟩, fun d => r d.1.1 d.1.2.2.1 d.2.1⟩
def F_R1_Loose64_l3 (r : (List Int) → Int → (List UInt8) → Option ((List UInt8))) : Lab ((List UInt8)) := ⟨[(0, [0, 0, 0, 0, 1, 0, 1, 1, 1, 1]), (0, [1, 0, 0, 0, 1, 0, 1, 1, 1, 1]), (0, [1, 0, 0, 1, 0, 1, 1, 1, 1]), (2, [0, 1, 0, 1, 1, 1, 1]), (1, [1, 0, 1, 1, 1, 1]), (0, [1, 1, 1, 1, 1])], ⟨61, [(3, .h (.list (.int .i64))), (7, .own 17), (8, .h (.int .i64))], [(17, .row .byte 5)], 64, []⟩, fun d => r d.1.1 d.1.2.2.1 d.2.1⟩
def F_R1_Loose64_l1 (r : (List UInt8) → Int → Bool → (List Int) → Option ((List UInt8))) : Lab ((List UInt8)) := ⟨[(0, [1, 0, 0, 0, 1, 0, 1, 1]), (0, [1, 0, 0, 1, 0, 1, 1]), (2, [0, 1, 0, 1, 1]), (1, [1, 0, 1, 1]), (0, [1, 1, 1])], ⟨61, [(0, .h (.list .byte)), (3, .own 16), (4, .h (.int .i64)), (19, .h .bool)], [(16, .row (.int .i64) 3)], 64, []⟩, fun d => r d.1.1 d.1.2.2.1 d.1.2.2.2.1 d.2.1⟩
def F_R1_Loose64_l0 (r : (List UInt8) → Int → (List Int) → Option ((List UInt8))) : Lab ((List UInt8)) := ⟨[(0, [0, 0, 0, 0, 1, 0, 1, 1]), (0, [1, 0, 0, 0, 1, 0, 1, 1]), (0, [1, 0, 0, 1, 0, 1, 1]), (2, [0, 1, 0, 1, 1]), (1, [1, 0, 1, 1]), (0, [1, 1, 1])], ⟨61, [(0, .h (.list .byte)), (3, .own 16), (4, .h (.int .i64))], [(16, .row (.int .i64) 3)], 64, []⟩, fun d => r d.1.1 d.1.2.2.1 d.2.1⟩
theorem F_R1_Loose64_p6_ok (fu : Nat) (d' : bden F_R1_Loose64_hp) (r0 : (List UInt8) → Int → (List Int) → Option ((List UInt8))) (h0 : LabOk (F_R1_Loose64_cx fu) (bput F_R1_Loose64_hp d') F_R1_Loose64_out (bodyOf Tryd.f24) (F_R1_Loose64_l0 r0)) (r4 : (List UInt8) → Int → Int → Int → (List Int) → Option ((List UInt8))) (h4 : LabOk (F_R1_Loose64_cx fu) (bput F_R1_Loose64_hp d') F_R1_Loose64_out (bodyOf Tryd.f24) (F_R1_Loose64_l4 r4)) : LabOk (F_R1_Loose64_cx fu) (bput F_R1_Loose64_hp d') F_R1_Loose64_out (bodyOf Tryd.f24) (F_R1_Loose64_l6 (F_R1_Loose64_p6 fu r0 r4)) :=
  LabOk.of_run (labs := [F_R1_Loose64_l4 (r4)]) (F_R1_Loose64_cxok fu) (fun _ _ h => idsB_look h) (labs1 h4 labs0) (fun d => by kernel_rfl)
theorem F_R1_Loose64_p5_ok (fu : Nat) (d' : bden F_R1_Loose64_hp) (r0 : (List UInt8) → Int → (List Int) → Option ((List UInt8))) (h0 : LabOk (F_R1_Loose64_cx fu) (bput F_R1_Loose64_hp d') F_R1_Loose64_out (bodyOf Tryd.f24) (F_R1_Loose64_l0 r0)) (r4 : (List UInt8) → Int → Int → Int → (List Int) → Option ((List UInt8))) (h4 : LabOk (F_R1_Loose64_cx fu) (bput F_R1_Loose64_hp d') F_R1_Loose64_out (bodyOf Tryd.f24) (F_R1_Loose64_l4 r4)) : LabOk (F_R1_Loose64_cx fu) (bput F_R1_Loose64_hp d') F_R1_Loose64_out (bodyOf Tryd.f24) (F_R1_Loose64_l5 (F_R1_Loose64_p5 fu r0 r4)) :=
  LabOk.of_run (labs := [F_R1_Loose64_l6 (F_R1_Loose64_p6 fu r0 r4), F_R1_Loose64_l0 (r0)]) (F_R1_Loose64_cxok fu) (fun _ _ h => idsB_look h) (labs1 (F_R1_Loose64_p6_ok fu d' r0 h0 r4 h4) (labs1 h0 labs0)) (fun d => by kernel_rfl)
theorem F_R1_Loose64_b4_ok (fu : Nat) (d' : bden F_R1_Loose64_hp) (r0 : (List UInt8) → Int → (List Int) → Option ((List UInt8))) (h0 : LabOk (F_R1_Loose64_cx fu) (bput F_R1_Loose64_hp d') F_R1_Loose64_out (bodyOf Tryd.f24) (F_R1_Loose64_l0 r0)) (r4 : (List UInt8) → Int → Int → Int → (List Int) → Option ((List UInt8))) (h4 : LabOk (F_R1_Loose64_cx fu) (bput F_R1_Loose64_hp d') F_R1_Loose64_out (bodyOf Tryd.f24) (F_R1_Loose64_l4 r4)) : LabOk (F_R1_Loose64_cx fu) (bput F_R1_Loose64_hp d') F_R1_Loose64_out (bodyOf Tryd.f24) (F_R1_Loose64_l4 (F_R1_Loose64_b4 fu r0 r4)) :=
  LabOk.of_run (labs := [F_R1_Loose64_l5 (F_R1_Loose64_p5 fu r0 r4)]) (F_R1_Loose64_cxok fu) (fun _ _ h => idsB_look h) (labs1 (F_R1_Loose64_p5_ok fu d' r0 h0 r4 h4) labs0) (fun d => by kernel_rfl)
theorem F_R1_Loose64_p4_ok (fu : Nat) (d' : bden F_R1_Loose64_hp) (r0 : (List UInt8) → Int → (List Int) → Option ((List UInt8))) (h0 : LabOk (F_R1_Loose64_cx fu) (bput F_R1_Loose64_hp d') F_R1_Loose64_out (bodyOf Tryd.f24) (F_R1_Loose64_l0 r0)) : ∀ n, LabOk (F_R1_Loose64_cx fu) (bput F_R1_Loose64_hp d') F_R1_Loose64_out (bodyOf Tryd.f24) (F_R1_Loose64_l4 (F_R1_Loose64_p4 fu r0 n))
  | 0 => fun _ _ h => by cases h
  | n + 1 => F_R1_Loose64_b4_ok fu d' r0 h0 (F_R1_Loose64_p4 fu r0 n) (F_R1_Loose64_p4_ok fu d' r0 h0 n)
theorem F_R1_Loose64_p2_ok (fu : Nat) (d' : bden F_R1_Loose64_hp) (r0 : (List UInt8) → Int → (List Int) → Option ((List UInt8))) (h0 : LabOk (F_R1_Loose64_cx fu) (bput F_R1_Loose64_hp d') F_R1_Loose64_out (bodyOf Tryd.f24) (F_R1_Loose64_l0 r0)) : LabOk (F_R1_Loose64_cx fu) (bput F_R1_Loose64_hp d') F_R1_Loose64_out (bodyOf Tryd.f24) (F_R1_Loose64_l2 (F_R1_Loose64_p2 fu r0)) :=
  LabOk.of_run (labs := [F_R1_Loose64_l4 (F_R1_Loose64_p4 fu r0 fu)]) (F_R1_Loose64_cxok fu) (fun _ _ h => idsB_look h) (labs1 (F_R1_Loose64_p4_ok fu d' r0 h0 fu) labs0) (fun d => by kernel_rfl)
theorem F_R1_Loose64_b3_ok (fu : Nat) (d' : bden F_R1_Loose64_hp) (r3 : (List Int) → Int → (List UInt8) → Option ((List UInt8))) (h3 : LabOk (F_R1_Loose64_cx fu) (bput F_R1_Loose64_hp d') F_R1_Loose64_out (bodyOf Tryd.f24) (F_R1_Loose64_l3 r3)) : LabOk (F_R1_Loose64_cx fu) (bput F_R1_Loose64_hp d') F_R1_Loose64_out (bodyOf Tryd.f24) (F_R1_Loose64_l3 (F_R1_Loose64_b3 fu r3)) :=
  LabOk.of_run (labs := [F_R1_Loose64_l3 (r3)]) (F_R1_Loose64_cxok fu) (fun _ _ h => idsB_look h) (labs1 h3 labs0) (fun d => by kernel_rfl)
theorem F_R1_Loose64_p3_ok (fu : Nat) (d' : bden F_R1_Loose64_hp) : ∀ n, LabOk (F_R1_Loose64_cx fu) (bput F_R1_Loose64_hp d') F_R1_Loose64_out (bodyOf Tryd.f24) (F_R1_Loose64_l3 (F_R1_Loose64_p3 fu n))
  | 0 => fun _ _ h => by cases h
  | n + 1 => F_R1_Loose64_b3_ok fu d' (F_R1_Loose64_p3 fu n) (F_R1_Loose64_p3_ok fu d' n)
theorem F_R1_Loose64_p1_ok (fu : Nat) (d' : bden F_R1_Loose64_hp) (r0 : (List UInt8) → Int → (List Int) → Option ((List UInt8))) (h0 : LabOk (F_R1_Loose64_cx fu) (bput F_R1_Loose64_hp d') F_R1_Loose64_out (bodyOf Tryd.f24) (F_R1_Loose64_l0 r0)) : LabOk (F_R1_Loose64_cx fu) (bput F_R1_Loose64_hp d') F_R1_Loose64_out (bodyOf Tryd.f24) (F_R1_Loose64_l1 (F_R1_Loose64_p1 fu r0)) :=
  LabOk.of_run (labs := [F_R1_Loose64_l2 (F_R1_Loose64_p2 fu r0), F_R1_Loose64_l3 (F_R1_Loose64_p3 fu fu)]) (F_R1_Loose64_cxok fu) (fun _ _ h => idsB_look h) (labs1 (F_R1_Loose64_p2_ok fu d' r0 h0) (labs1 (F_R1_Loose64_p3_ok fu d' fu) labs0)) (fun d => by kernel_rfl)
theorem F_R1_Loose64_b0_ok (fu : Nat) (d' : bden F_R1_Loose64_hp) (r0 : (List UInt8) → Int → (List Int) → Option ((List UInt8))) (h0 : LabOk (F_R1_Loose64_cx fu) (bput F_R1_Loose64_hp d') F_R1_Loose64_out (bodyOf Tryd.f24) (F_R1_Loose64_l0 r0)) : LabOk (F_R1_Loose64_cx fu) (bput F_R1_Loose64_hp d') F_R1_Loose64_out (bodyOf Tryd.f24) (F_R1_Loose64_l0 (F_R1_Loose64_b0 fu r0)) :=
  LabOk.of_run (labs := [F_R1_Loose64_l1 (F_R1_Loose64_p1 fu r0)]) (F_R1_Loose64_cxok fu) (fun _ _ h => idsB_look h) (labs1 (F_R1_Loose64_p1_ok fu d' r0 h0) labs0) (fun d => by kernel_rfl)
theorem F_R1_Loose64_p0_ok (fu : Nat) (d' : bden F_R1_Loose64_hp) : ∀ n, LabOk (F_R1_Loose64_cx fu) (bput F_R1_Loose64_hp d') F_R1_Loose64_out (bodyOf Tryd.f24) (F_R1_Loose64_l0 (F_R1_Loose64_p0 fu n))
  | 0 => fun _ _ h => by cases h
  | n + 1 => F_R1_Loose64_b0_ok fu d' (F_R1_Loose64_p0 fu n) (F_R1_Loose64_p0_ok fu d' n)
theorem F_R1_Loose64_ok (fu : Nat) : (F_R1_Loose64_ent (F_R1_Loose64 fu)).Sound Tryd.prog :=
  Ent.sound_fn (cx := F_R1_Loose64_cx fu) (labs := [F_R1_Loose64_l0 (F_R1_Loose64_p0 fu fu)]) (F_R1_Loose64_cxok fu) rfl rfl rfl rfl Tryd.call24 (by kernel_rfl) (fun d' => (labs1 (F_R1_Loose64_p0_ok fu d' fu) labs0)) (fun d d' => by kernel_rfl)
/- posthouse/posthouseref1.Hex -/
def F_R1_Hex_out : RS Int := .one (α := Int) (.h (.int .i64)) [] (fun r => (r, ())) (fun y => y.1) (fun _ => rfl)
def F_R1_Hex_hp : List (Nat × BPt) := []
def F_R1_Hex_args : List Pt := [.h .byte]
def F_R1_Hex_ent (r : UInt8 → Option Int) : Ent := { key := .fn 38, args := F_R1_Hex_args, hp := F_R1_Hex_hp, R := Int, F := fun d _ => r d.1, out := F_R1_Hex_out }
noncomputable def F_R1_Hex_cx (fu : Nat) : Cx := { P := Tryd.prog, tb := ⟨[F_R1_Lower_ent (F_R1_Lower fu)], etys, false⟩, fn := Tryd.f38, f := 38, ids := idsB F_R1_Hex_hp, rd := none, tags := [] }
theorem F_R1_Hex_cxok (fu : Nat) : (F_R1_Hex_cx fu).Ok (bodyOf Tryd.f38) := ⟨(ents1 (F_R1_Lower_ok fu) ents0), Tryd_mixed, Tryd.func38, tags0⟩
def F_R1_Hex_l0 (r : UInt8 → Int → Option Int) : Lab Int := ⟨[(0, [0, 0, 0, 0, 1, 0, 1]), (0, [1, 0, 0, 0, 1, 0, 1]), (0, [1, 0, 0, 1, 0, 1]), (2, [0, 1, 0, 1]), (1, [1, 0, 1]), (0, [1, 1])], ⟨20, [(0, .h .byte), (3, .h (.int .i64))], [], 64, []⟩, fun d => r d.1.1 d.1.2.1⟩
theorem F_R1_Hex_b0_ok (fu : Nat) (d' : bden F_R1_Hex_hp) (r0 : UInt8 → Int → Option Int) (h0 : LabOk (F_R1_Hex_cx fu) (bput F_R1_Hex_hp d') F_R1_Hex_out (bodyOf Tryd.f38) (F_R1_Hex_l0 r0)) : LabOk (F_R1_Hex_cx fu) (bput F_R1_Hex_hp d') F_R1_Hex_out (bodyOf Tryd.f38) (F_R1_Hex_l0 (F_R1_Hex_b0 fu r0)) :=
  LabOk.of_run (labs := [F_R1_Hex_l0 (r0)]) (F_R1_Hex_cxok fu) (fun _ _ h => idsB_look h) (labs1 h0 labs0) (fun d => by kernel_rfl)
theorem F_R1_Hex_p0_ok (fu : Nat) (d' : bden F_R1_Hex_hp) : ∀ n, LabOk (F_R1_Hex_cx fu) (bput F_R1_Hex_hp d') F_R1_Hex_out (bodyOf Tryd.f38) (F_R1_Hex_l0 (F_R1_Hex_p0 fu n))
  | 0 => fun _ _ h => by cases h
  | n + 1 => F_R1_Hex_b0_ok fu d' (F_R1_Hex_p0 fu n) (F_R1_Hex_p0_ok fu d' n)
theorem F_R1_Hex_ok (fu : Nat) : (F_R1_Hex_ent (F_R1_Hex fu)).Sound Tryd.prog :=
  Ent.sound_fn (cx := F_R1_Hex_cx fu) (labs := [F_R1_Hex_l0 (F_R1_Hex_p0 fu fu)]) (F_R1_Hex_cxok fu) rfl rfl rfl rfl Tryd.call38 (by kernel_rfl) (fun d' => (labs1 (F_R1_Hex_p0_ok fu d' fu) labs0)) (fun d d' => by kernel_rfl)
/- posthouse/posthouseref1.LooseQuoted -/
def F_R1_LooseQuoted_out : RS ((List UInt8)) := .one (α := (List UInt8)) (.own 0) [(0, .row .byte 5)] (fun r => ((), (r, ()))) (fun y => y.2.1) (fun _ => rfl)
def F_R1_LooseQuoted_hp : List (Nat × BPt) := []
def F_R1_LooseQuoted_args : List Pt := [.h (.list .byte)]
def F_R1_LooseQuoted_ent (r : (List UInt8) → Option ((List UInt8))) : Ent := { key := .fn 25, args := F_R1_LooseQuoted_args, hp := F_R1_LooseQuoted_hp, R := ((List UInt8)), F := fun d _ => r d.1, out := F_R1_LooseQuoted_out }
noncomputable def F_R1_LooseQuoted_cx (fu : Nat) : Cx := { P := Tryd.prog, tb := ⟨[F_R1_Blank_ent F_R1_Blank, F_R1_Hex_ent (F_R1_Hex fu)], etys, false⟩, fn := Tryd.f25, f := 25, ids := idsB F_R1_LooseQuoted_hp, rd := none, tags := [] }
theorem F_R1_LooseQuoted_cxok (fu : Nat) : (F_R1_LooseQuoted_cx fu).Ok (bodyOf Tryd.f25) := ⟨(ents1 F_R1_Blank_ok (ents1 (F_R1_Hex_ok fu) ents0)), Tryd_mixed, Tryd.func25, tags0⟩
def F_R1_LooseQuoted_l3 (r : (List UInt8) → Int → Int → (List UInt8) → Option ((List UInt8))) : Lab ((List UInt8)) := ⟨[(0, [0, 1, 0, 0, 0, 1, 0, 1, 0, 0, 1, 0, 1, 1]), (1, [1, 0, 0, 0, 1, 0, 1, 0, 0, 1, 0, 1, 1]), (2, [0, 0, 1, 0, 1, 0, 0, 1, 0, 1, 1]), (1, [0, 1, 0, 1, 0, 0, 1, 0, 1, 1]), (0, [1, 1, 0, 1, 0, 0, 1, 0, 1, 1]), (1, [1, 0, 0, 1, 0, 1, 1]), (2, [0, 1, 0, 1, 1]), (1, [1, 0, 1, 1]), (0, [1, 1, 1])], ⟨156, [(0, .h (.list .byte)), (3, .own 16), (4, .h (.int .i64)), (5, .h (.int .i64))], [(16, .row .byte 5)], 64, []⟩, fun d => r d.1.1 d.1.2.2.1 d.1.2.2.2.1 d.2.1⟩
def F_R1_LooseQuoted_l8 (r : (List UInt8) → Int → Int → Int → Int → (List UInt8) → Option ((List UInt8))) : Lab ((List UInt8)) := ⟨[(0, [0, 1, 0, 0, 0, 1, 1, 1, 1, 1, 0, 1, 0, 0, 1, 0, 1, 1]), (1, [1, 0, 0, 0, 1, 1, 1, 1, 1, 0, 1, 0, 0, 1, 0, 1, 1]), (2, [0, 0, 1, 1, 1, 1, 1, 0, 1, 0, 0, 1, 0, 1, 1]), (1, [0, 1, 1, 1, 1, 1, 0, 1, 0, 0, 1, 0, 1, 1]), (0, [1, 1, 1, 1, 1, 1, 0, 1, 0, 0, 1, 0, 1, 1]), (1, [1, 0, 0, 1, 0, 1, 1]), (2, [0, 1, 0, 1, 1]), (1, [1, 0, 1, 1]), (0, [1, 1, 1])], ⟨156, [(0, .h (.list .byte)), (3, .own 16), (4, .h (.int .i64)), (5, .h (.int .i64)), (6, .h (.int .i64)), (7, .h (.int .i64))], [(16, .row .byte 5)], 64, []⟩, fun d => r d.1.1 d.1.2.2.1 d.1.2.2.2.1 d.1.2.2.2.2.1 d.1.2.2.2.2.2.1 d.2.1⟩
def F_R1_LooseQuoted_l13 (r : (List UInt8) → Int → Int → Int → Bool → Int → (List UInt8) → Option ((List UInt8))) : Lab ((List UInt8)) := ⟨[(0, [1, 1, 0, 0, 1, 0, 1, 1, 1, 1, 1, 1, 1, 1, 0, 1, 0, 0, 1, 0, 1, 1]), (2, [0, 1, 0, 1, 1, 1, 1, 1, 1, 1, 1, 0, 1, 0, 0, 1, 0, 1, 1]), (1, [1, 0, 1, 1, 1, 1, 1, 1, 1, 1, 0, 1, 0, 0, 1, 0, 1, 1]), (0, [1, 1, 1, 1, 1, 1, 1, 1, 1, 0, 1, 0, 0, 1, 0, 1, 1]), (1, [1, 0, 0, 1, 0, 1, 1]), (2, [0, 1, 0, 1, 1]), (1, [1, 0, 1, 1]), (0, [1, 1, 1])], ⟨156, [(0, .h (.list .byte)), (3, .own 16), (5, .h (.int .i64)), (6, .h (.int .i64)), (7, .h (.int .i64)), (8, .h .bool), (9, .h (.int .i64))], [(16, .row .byte 5)], 64, []⟩, fun d => r d.1.1 d.1.2.2.1 d.1.2.2.2.1 d.1.2.2.2.2.1 d.1.2.2.2.2.2.1 d.1.2.2.2.2.2.2.1 d.2.1⟩
def F_R1_LooseQuoted_l12 (r : (List UInt8) → Int → Int → Int → Bool → Int → Bool → (List UInt8) → Option ((List UInt8))) : Lab ((List UInt8)) := ⟨[(0, [1, 0, 0, 1, 0, 0, 1, 0, 1, 1, 1, 1, 1, 1, 1, 1, 0, 1, 0, 0, 1, 0, 1, 1]), (1, [0, 1, 0, 0, 1, 0, 1, 1, 1, 1, 1, 1, 1, 1, 0, 1, 0, 0, 1, 0, 1, 1]), (0, [1, 1, 0, 0, 1, 0, 1, 1, 1, 1, 1, 1, 1, 1, 0, 1, 0, 0, 1, 0, 1, 1]), (2, [0, 1, 0, 1, 1, 1, 1, 1, 1, 1, 1, 0, 1, 0, 0, 1, 0, 1, 1]), (1, [1, 0, 1, 1, 1, 1, 1, 1, 1, 1, 0, 1, 0, 0, 1, 0, 1, 1]), (0, [1, 1, 1, 1, 1, 1, 1, 1, 1, 0, 1, 0, 0, 1, 0, 1, 1]), (1, [1, 0, 0, 1, 0, 1, 1]), (2, [0, 1, 0, 1, 1]), (1, [1, 0, 1, 1]), (0, [1, 1, 1])], ⟨156, [(0, .h (.list .byte)), (3, .own 16), (5, .h (.int .i64)), (6, .h (.int .i64)), (7, .h (.int .i64)), (8, .h .bool), (9, .h (.int .i64)), (110, .h .bool)], [(16, .row .byte 5)], 64, []⟩, fun d => r d.1.1 d.1.2.2.1 d.1.2.2.2.1 d.1.2.2.2.2.1 d.1.2.2.2.2.2.1 d.1.2.2.2.2.2.2.1 d.1.2.2.2.2.2.2.2.1 d.2.1⟩
def F_R1_LooseQuoted_l11 (r : (List UInt8) → Int → Int → Int → Bool → Int → (List UInt8) → Option ((List UInt8))) : Lab ((List UInt8)) := ⟨[(0, [0, 0, 0, 0, 1, 0, 1, 1, 1, 1, 1, 1, 1, 1, 0, 1, 0, 0, 1, 0, 1, 1]), (0, [1, 0, 0, 0, 1, 0, 1, 1, 1, 1, 1, 1, 1, 1, 0, 1, 0, 0, 1, 0, 1, 1]), (0, [1, 0, 0, 1, 0, 1, 1, 1, 1, 1, 1, 1, 1, 0, 1, 0, 0, 1, 0, 1, 1]), (2, [0, 1, 0, 1, 1, 1, 1, 1, 1, 1, 1, 0, 1, 0, 0, 1, 0, 1, 1]), (1, [1, 0, 1, 1, 1, 1, 1, 1, 1, 1, 0, 1, 0, 0, 1, 0, 1, 1]), (0, [1, 1, 1, 1, 1, 1, 1, 1, 1, 0, 1, 0, 0, 1, 0, 1, 1]), (1, [1, 0, 0, 1, 0, 1, 1]), (2, [0, 1, 0, 1, 1]), (1, [1, 0, 1, 1]), (0, [1, 1, 1])], ⟨156, [(0, .h (.list .byte)), (3, .own 16), (5, .h (.int .i64)), (6, .h (.int .i64)), (7, .h (.int .i64)), (8, .h .bool), (9, .h (.int .i64))], [(16, .row .byte 5)], 64, []⟩, fun d => r d.1.1 d.1.2.2.1 d.1.2.2.2.1 d.1.2.2.2.2.1 d.1.2.2.2.2.2.1 d.1.2.2.2.2.2.2.1 d.2.1⟩
def F_R1_LooseQuoted_l10 (r : (List UInt8) → Int → Int → Int → Int → Bool → (List UInt8) → Option ((List UInt8))) : Lab ((List UInt8)) := ⟨[(0, [0, 0, 1, 1, 1, 1, 1, 1, 1, 1, 0, 1, 0, 0, 1, 0, 1, 1]), (0, [1, 0, 1, 1, 1, 1, 1, 1, 1, 1, 0, 1, 0, 0, 1, 0, 1, 1]), (0, [1, 1, 1, 1, 1, 1, 1, 1, 1, 0, 1, 0, 0, 1, 0, 1, 1]), (1, [1, 0, 0, 1, 0, 1, 1]), (2, [0, 1, 0, 1, 1]), (1, [1, 0, 1, 1]), (0, [1, 1, 1])], ⟨156, [(0, .h (.list .byte)), (3, .own 16), (4, .h (.int .i64)), (5, .h (.int .i64)), (6, .h (.int .i64)), (7, .h (.int .i64)), (8, .h .bool)], [(16, .row .byte 5)], 64, []⟩, fun d => r d.1.1 d.1.2.2.1 d.1.2.2.2.1 d.1.2.2.2.2.1 d.1.2.2.2.2.2.1 d.1.2.2.2.2.2.2.1 d.2.1⟩
def F_R1_LooseQuoted_l9 (r : (List UInt8) → Int → Int → Int → Int → Bool → (List UInt8) → Option ((List UInt8))) : Lab ((List UInt8)) := ⟨[(0, [0, 0, 1, 1, 1, 1, 1, 1, 1, 0, 1, 0, 0, 1, 0, 1, 1]), (0, [1, 0, 1, 1, 1, 1, 1, 1, 1, 0, 1, 0, 0, 1, 0, 1, 1]), (0, [1, 1, 1, 1, 1, 1, 1, 1, 0, 1, 0, 0, 1, 0, 1, 1]), (1, [1, 0, 0, 1, 0, 1, 1]), (2, [0, 1, 0, 1, 1]), (1, [1, 0, 1, 1]), (0, [1, 1, 1])], ⟨156, [(0, .h (.list .byte)), (3, .own 16), (4, .h (.int .i64)), (5, .h (.int .i64)), (6, .h (.int .i64)), (7, .h (.int .i64)), (8, .h .bool)], [(16, .row .byte 5)], 64, []⟩, fun d => r d.1.1 d.1.2.2.1 d.1.2.2.2.1 d.1.2.2.2.2.1 d.1.2.2.2.2.2.1 d.1.2.2.2.2.2.2.1 d.2.1⟩
def F_R1_LooseQuoted_l7 (r : (List UInt8) → Int → Int → Int → Int → Bool → (List UInt8) → Option ((List UInt8))) : Lab ((List UInt8)) := ⟨[(0, [1, 0, 0, 0, 0, 1, 1, 1, 1, 1, 0, 1, 0, 0, 1, 0, 1, 1]), (0, [1, 0, 0, 0, 1, 1, 1, 1, 1, 0, 1, 0, 0, 1, 0, 1, 1]), (2, [0, 0, 1, 1, 1, 1, 1, 0, 1, 0, 0, 1, 0, 1, 1]), (1, [0, 1, 1, 1, 1, 1, 0, 1, 0, 0, 1, 0, 1, 1]), (0, [1, 1, 1, 1, 1, 1, 0, 1, 0, 0, 1, 0, 1, 1]), (1, [1, 0, 0, 1, 0, 1, 1]), (2, [0, 1, 0, 1, 1]), (1, [1, 0, 1, 1]), (0, [1, 1, 1])], ⟨156, [(0, .h (.list .byte)), (3, .own 16), (4, .h (.int .i64)), (5, .h (.int .i64)), (6, .h (.int .i64)), (7, .h (.int .i64)), (59, .h .bool)], [(16, .row .byte 5)], 64, []⟩, fun d => r d.1.1 d.1.2.2.1 d.1.2.2.2.1 d.1.2.2.2.2.1 d.1.2.2.2.2.2.1 d.1.2.2.2.2.2.2.1 d.2.1⟩
def F_R1_LooseQuoted_l6 (r : (List UInt8) → Int → Int → Int → Int → (List UInt8) → Option ((List UInt8))) : Lab ((List UInt8)) := ⟨[(0, [0, 0, 0, 0, 0, 1, 1, 1, 1, 1, 0, 1, 0, 0, 1, 0, 1, 1]), (0, [1, 0, 0, 0, 0, 1, 1, 1, 1, 1, 0, 1, 0, 0, 1, 0, 1, 1]), (0, [1, 0, 0, 0, 1, 1, 1, 1, 1, 0, 1, 0, 0, 1, 0, 1, 1]), (2, [0, 0, 1, 1, 1, 1, 1, 0, 1, 0, 0, 1, 0, 1, 1]), (1, [0, 1, 1, 1, 1, 1, 0, 1, 0, 0, 1, 0, 1, 1]), (0, [1, 1, 1, 1, 1, 1, 0, 1, 0, 0, 1, 0, 1, 1]), (1, [1, 0, 0, 1, 0, 1, 1]), (2, [0, 1, 0, 1, 1]), (1, [1, 0, 1, 1]), (0, [1, 1, 1])], ⟨156, [(0, .h (.list .byte)), (3, .own 16), (4, .h (.int .i64)), (5, .h (.int .i64)), (6, .h (.int .i64)), (7, .h (.int .i64))], [(16, .row .byte 5)], 64, []⟩, fun d => r d.1.1 d.1.2.2.1 d.1.2.2.2.1 d.1.2.2.2.2.1 d.1.2.2.2.2.2.1 d.2.1⟩
def F_R1_LooseQuoted_l5 (r : (List UInt8) → Int → Int → Int → (List UInt8) → Option ((List UInt8))) : Lab ((List UInt8)) := ⟨[(0, [0, 1, 1, 1, 1, 0, 1, 0, 0, 1, 0, 1, 1]), (0, [1, 1, 1, 1, 1, 0, 1, 0, 0, 1, 0, 1, 1]), (1, [1, 0, 0, 1, 0, 1, 1]), (2, [0, 1, 0, 1, 1]), (1, [1, 0, 1, 1]), (0, [1, 1, 1])], ⟨156, [(0, .h (.list .byte)), (3, .own 16), (4, .h (.int .i64)), (5, .h (.int .i64)), (6, .h (.int .i64))], [(16, .row .byte 5)], 64, []⟩, fun d => r d.1.1 d.1.2.2.1 d.1.2.2.2.1 d.1.2.2.2.2.1 d.2.1⟩
def F_R1_LooseQuoted_l4 (r : (List UInt8) → Int → Int → Int → Bool → (List UInt8) → Option ((List UInt8))) : Lab ((List UInt8)) := ⟨[(0, [1, 0, 1, 1, 1, 0, 1, 0, 0, 1, 0, 1, 1]), (0, [1, 1, 1, 1, 0, 1, 0, 0, 1, 0, 1, 1]), (1, [1, 0, 0, 1, 0, 1, 1]), (2, [0, 1, 0, 1, 1]), (1, [1, 0, 1, 1]), (0, [1, 1, 1])], ⟨156, [(0, .h (.list .byte)), (3, .own 16), (4, .h (.int .i64)), (5, .h (.int .i64)), (6, .h (.int .i64)), (45, .h .bool)], [(16, .row .byte 5)], 64, []⟩, fun d => r d.1.1 d.1.2.2.1 d.1.2.2.2.1 d.1.2.2.2.2.1 d.1.2.2.2.2.2.1 d.2.1⟩
def F_R1_LooseQuoted_l2 (r : (List UInt8) → Int → Int → Bool → (List UInt8) → Option ((List UInt8))) : Lab ((List UInt8)) := ⟨[(0, [1, 0, 0, 0, 0, 1, 0, 1, 0, 0, 1, 0, 1, 1]), (0, [1, 0, 0, 0, 1, 0, 1, 0, 0, 1, 0, 1, 1]), (2, [0, 0, 1, 0, 1, 0, 0, 1, 0, 1, 1]), (1, [0, 1, 0, 1, 0, 0, 1, 0, 1, 1]), (0, [1, 1, 0, 1, 0, 0, 1, 0, 1, 1]), (1, [1, 0, 0, 1, 0, 1, 1]), (2, [0, 1, 0, 1, 1]), (1, [1, 0, 1, 1]), (0, [1, 1, 1])], ⟨156, [(0, .h (.list .byte)), (3, .own 16), (4, .h (.int .i64)), (5, .h (.int .i64)), (25, .h .bool)], [(16, .row .byte 5)], 64, []⟩, fun d => r d.1.1 d.1.2.2.1 d.1.2.2.2.1 d.1.2.2.2.2.1 d.2.1⟩
def F_R1_LooseQuoted_l1 (r : (List UInt8) → Int → Int → (List UInt8) → Option ((List UInt8))) : Lab ((List UInt8)) := ⟨[(0, [0, 0, 0, 0, 0, 1, 0, 1, 0, 0, 1, 0, 1, 1]), (0, [1, 0, 0, 0, 0, 1, 0, 1, 0, 0, 1, 0, 1, 1]), (0, [1, 0, 0, 0, 1, 0, 1, 0, 0, 1, 0, 1, 1]), (2, [0, 0, 1, 0, 1, 0, 0, 1, 0, 1, 1]), (1, [0, 1, 0, 1, 0, 0, 1, 0, 1, 1]), (0, [1, 1, 0, 1, 0, 0, 1, 0, 1, 1]), (1, [1, 0, 0, 1, 0, 1, 1]), (2, [0, 1, 0, 1, 1]), (1, [1, 0, 1, 1]), (0, [1, 1, 1])], ⟨156, [(0, .h (.list .byte)), (3, .own 16), (4, .h (.int .i64)), (5, .h (.int .i64))], [(16, .row .byte 5)], 64, []⟩, fun d => r d.1.1 d.1.2.2.1 d.1.2.2.2.1 d.2.1⟩
def F_R1_LooseQuoted_l0 (r : (List UInt8) → Int → (List UInt8) → Option ((List UInt8))) : Lab ((List UInt8)) := ⟨[(0, [0, 0, 0, 0, 1, 0, 1, 1]), (0, [1, 0, 0, 0, 1, 0, 1, 1]), (0, [1, 0, 0, 1, 0, 1, 1]), (2, [0, 1, 0, 1, 1]), (1, [1, 0, 1, 1]), (0, [1, 1, 1])], ⟨156, [(0, .h (.list .byte)), (3, .own 16), (4, .h (.int .i64))], [(16, .row .byte 5)], 64, []⟩, fun d => r d.1.1 d.1.2.2.1 d.2.1⟩
theorem F_R1_LooseQuoted_p3_ok (fu : Nat) (d' : bden F_R1_LooseQuoted_hp) (r0 : (List UInt8) → Int → (List UInt8) → Option ((List UInt8))) (h0 : LabOk (F_R1_LooseQuoted_cx fu) (bput F_R1_LooseQuoted_hp d') F_R1_LooseQuoted_out (bodyOf Tryd.f25) (F_R1_LooseQuoted_l0 r0)) (r1 : (List UInt8) → Int → Int → (List UInt8) → Option ((List UInt8))) (h1 : LabOk (F_R1_LooseQuoted_cx fu) (bput F_R1_LooseQuoted_hp d') F_R1_LooseQuoted_out (bodyOf Tryd.f25) (F_R1_LooseQuoted_l1 r1)) : LabOk (F_R1_LooseQuoted_cx fu) (bput F_R1_LooseQuoted_hp d') F_R1_LooseQuoted_out (bodyOf Tryd.f25) (F_R1_LooseQuoted_l3 (F_R1_LooseQuoted_p3 fu r0 r1)) :=
  LabOk.of_run (labs := [F_R1_LooseQuoted_l1 (r1)]) (F_R1_LooseQuoted_cxok fu) (fun _ _ h => idsB_look h) (labs1 h1 labs0) (fun d => by kernel_rfl)
theorem F_R1_LooseQuoted_p8_ok (fu : Nat) (d' : bden F_R1_LooseQuoted_hp) (r0 : (List UInt8) → Int → (List UInt8) → Option ((List UInt8))) (h0 : LabOk (F_R1_LooseQuoted_cx fu) (bput F_R1_LooseQuoted_hp d') F_R1_LooseQuoted_out (bodyOf Tryd.f25) (F_R1_LooseQuoted_l0 r0)) (r6 : (List UInt8) → Int → Int → Int → Int → (List UInt8) → Option ((List UInt8))) (h6 : LabOk (F_R1_LooseQuoted_cx fu) (bput F_R1_LooseQuoted_hp d') F_R1_LooseQuoted_out (bodyOf Tryd.f25) (F_R1_LooseQuoted_l6 r6)) : LabOk (F_R1_LooseQuoted_cx fu) (bput F_R1_LooseQuoted_hp d') F_R1_LooseQuoted_out (bodyOf Tryd.f25) (F_R1_LooseQuoted_l8 (F_R1_LooseQuoted_p8 fu r0 r6)) :=
  LabOk.of_run (labs := [F_R1_LooseQuoted_l6 (r6)]) (F_R1_LooseQuoted_cxok fu) (fun _ _ h => idsB_look h) (labs1 h6 labs0) (fun d => by kernel_rfl)
theorem F_R1_LooseQuoted_p13_ok (fu : Nat) (d' : bden F_R1_LooseQuoted_hp) (r0 : (List UInt8) → Int → (List UInt8) → Option ((List UInt8))) (h0 : LabOk (F_R1_LooseQuoted_cx fu) (bput F_R1_LooseQuoted_hp d') F_R1_LooseQuoted_out (bodyOf Tryd.f25) (F_R1_LooseQuoted_l0 r0)) (r11 : (List UInt8) → Int → Int → Int → Bool → Int → (List UInt8) → Option ((List UInt8))) (h11 : LabOk (F_R1_LooseQuoted_cx fu) (bput F_R1_LooseQuoted_hp d') F_R1_LooseQuoted_out (bodyOf Tryd.f25) (F_R1_LooseQuoted_l11 r11)) : LabOk (F_R1_LooseQuoted_cx fu) (bput F_R1_LooseQuoted_hp d') F_R1_LooseQuoted_out (bodyOf Tryd.f25) (F_R1_LooseQuoted_l13 (F_R1_LooseQuoted_p13 fu r0 r11)) :=
  LabOk.of_run (labs := [F_R1_LooseQuoted_l11 (r11)]) (F_R1_LooseQuoted_cxok fu) (fun _ _ h => idsB_look h) (labs1 h11 labs0) (fun d => by kernel_rfl)
theorem F_R1_LooseQuoted_p12_ok (fu : Nat) (d' : bden F_R1_LooseQuoted_hp) (r0 : (List UInt8) → Int → (List UInt8) → Option ((List UInt8))) (h0 : LabOk (F_R1_LooseQuoted_cx fu) (bput F_R1_LooseQuoted_hp d') F_R1_LooseQuoted_out (bodyOf Tryd.f25) (F_R1_LooseQuoted_l0 r0)) (r11 : (List UInt8) → Int → Int → Int → Bool → Int → (List UInt8) → Option ((List UInt8))) (h11 : LabOk (F_R1_LooseQuoted_cx fu) (bput F_R1_LooseQuoted_hp d') F_R1_LooseQuoted_out (bodyOf Tryd.f25) (F_R1_LooseQuoted_l11 r11)) : LabOk (F_R1_LooseQuoted_cx fu) (bput F_R1_LooseQuoted_hp d') F_R1_LooseQuoted_out (bodyOf Tryd.f25) (F_R1_LooseQuoted_l12 (F_R1_LooseQuoted_p12 fu r0 r11)) :=
  LabOk.of_run (labs := [F_R1_LooseQuoted_l13 (F_R1_LooseQuoted_p13 fu r0 r11)]) (F_R1_LooseQuoted_cxok fu) (fun _ _ h => idsB_look h) (labs1 (F_R1_LooseQuoted_p13_ok fu d' r0 h0 r11 h11) labs0) (fun d => by kernel_rfl)
theorem F_R1_LooseQuoted_b11_ok (fu : Nat) (d' : bden F_R1_LooseQuoted_hp) (r0 : (List UInt8) → Int → (List UInt8) → Option ((List UInt8))) (h0 : LabOk (F_R1_LooseQuoted_cx fu) (bput F_R1_LooseQuoted_hp d') F_R1_LooseQuoted_out (bodyOf Tryd.f25) (F_R1_LooseQuoted_l0 r0)) (r11 : (List UInt8) → Int → Int → Int → Bool → Int → (List UInt8) → Option ((List UInt8))) (h11 : LabOk (F_R1_LooseQuoted_cx fu) (bput F_R1_LooseQuoted_hp d') F_R1_LooseQuoted_out (bodyOf Tryd.f25) (F_R1_LooseQuoted_l11 r11)) : LabOk (F_R1_LooseQuoted_cx fu) (bput F_R1_LooseQuoted_hp d') F_R1_LooseQuoted_out (bodyOf Tryd.f25) (F_R1_LooseQuoted_l11 (F_R1_LooseQuoted_b11 fu r0 r11)) :=
  LabOk.of_run (labs := [F_R1_LooseQuoted_l12 (F_R1_LooseQuoted_p12 fu r0 r11), F_R1_LooseQuoted_l0 (r0)]) (F_R1_LooseQuoted_cxok fu) (fun _ _ h => idsB_look h) (labs1 (F_R1_LooseQuoted_p12_ok fu d' r0 h0 r11 h11) (labs1 h0 labs0)) (fun d => by kernel_rfl)
theorem F_R1_LooseQuoted_p11_ok (fu : Nat) (d' : bden F_R1_LooseQuoted_hp) (r0 : (List UInt8) → Int → (List UInt8) → Option ((List UInt8))) (h0 : LabOk (F_R1_LooseQuoted_cx fu) (bput F_R1_LooseQuoted_hp d') F_R1_LooseQuoted_out (bodyOf Tryd.f25) (F_R1_LooseQuoted_l0 r0)) : ∀ n, LabOk (F_R1_LooseQuoted_cx fu) (bput F_R1_LooseQuoted_hp d') F_R1_LooseQuoted_out (bodyOf Tryd.f25) (F_R1_LooseQuoted_l11 (F_R1_LooseQuoted_p11 fu r0 n))
  | 0 => fun _ _ h => by cases h
  | n + 1 => F_R1_LooseQuoted_b11_ok fu d' r0 h0 (F_R1_LooseQuoted_p11 fu r0 n) (F_R1_LooseQuoted_p11_ok fu d' r0 h0 n)
theorem F_R1_LooseQuoted_p10_ok (fu : Nat) (d' : bden F_R1_LooseQuoted_hp) (r0 : (List UInt8) → Int → (List UInt8) → Option ((List UInt8))) (h0 : LabOk (F_R1_LooseQuoted_cx fu) (bput F_R1_LooseQuoted_hp d') F_R1_LooseQuoted_out (bodyOf Tryd.f25) (F_R1_LooseQuoted_l0 r0)) : LabOk (F_R1_LooseQuoted_cx fu) (bput F_R1_LooseQuoted_hp d') F_R1_LooseQuoted_out (bodyOf Tryd.f25) (F_R1_LooseQuoted_l10 (F_R1_LooseQuoted_p10 fu r0)) :=
  LabOk.of_run (labs := [F_R1_LooseQuoted_l11 (F_R1_LooseQuoted_p11 fu r0 fu)]) (F_R1_LooseQuoted_cxok fu) (fun _ _ h => idsB_look h) (labs1 (F_R1_LooseQuoted_p11_ok fu d' r0 h0 fu) labs0) (fun d => by kernel_rfl)
theorem F_R1_LooseQuoted_p9_ok (fu : Nat) (d' : bden F_R1_LooseQuoted_hp) (r0 : (List UInt8) → Int → (List UInt8) → Option ((List UInt8))) (h0 : LabOk (F_R1_LooseQuoted_cx fu) (bput F_R1_LooseQuoted_hp d') F_R1_LooseQuoted_out (bodyOf Tryd.f25) (F_R1_LooseQuoted_l0 r0)) : LabOk (F_R1_LooseQuoted_cx fu) (bput F_R1_LooseQuoted_hp d') F_R1_LooseQuoted_out (bodyOf Tryd.f25) (F_R1_LooseQuoted_l9 (F_R1_LooseQuoted_p9 fu r0)) :=
  LabOk.of_run (labs := [F_R1_LooseQuoted_l10 (F_R1_LooseQuoted_p10 fu r0)]) (F_R1_LooseQuoted_cxok fu) (fun _ _ h => idsB_look h) (labs1 (F_R1_LooseQuoted_p10_ok fu d' r0 h0) labs0) (fun d => by kernel_rfl)
theorem F_R1_LooseQuoted_p7_ok (fu : Nat) (d' : bden F_R1_LooseQuoted_hp) (r0 : (List UInt8) → Int → (List UInt8) → Option ((List UInt8))) (h0 : LabOk (F_R1_LooseQuoted_cx fu) (bput F_R1_LooseQuoted_hp d') F_R1_LooseQuoted_out (bodyOf Tryd.f25) (F_R1_LooseQuoted_l0 r0)) (r6 : (List UInt8) → Int → Int → Int → Int → (List UInt8) → Option ((List UInt8))) (h6 : LabOk (F_R1_LooseQuoted_cx fu) (bput F_R1_LooseQuoted_hp d') F_R1_LooseQuoted_out (bodyOf Tryd.f25) (F_R1_LooseQuoted_l6 r6)) : LabOk (F_R1_LooseQuoted_cx fu) (bput F_R1_LooseQuoted_hp d') F_R1_LooseQuoted_out (bodyOf Tryd.f25) (F_R1_LooseQuoted_l7 (F_R1_LooseQuoted_p7 fu r0 r6)) :=
  LabOk.of_run (labs := [F_R1_LooseQuoted_l8 (F_R1_LooseQuoted_p8 fu r0 r6), F_R1_LooseQuoted_l9 (F_R1_LooseQuoted_p9 fu r0)]) (F_R1_LooseQuoted_cxok fu) (fun _ _ h => idsB_look h) (labs1 (F_R1_LooseQuoted_p8_ok fu d' r0 h0 r6 h6) (labs1 (F_R1_LooseQuoted_p9_ok fu d' r0 h0) labs0)) (fun d => by kernel_rfl)
theorem F_R1_LooseQuoted_b6_ok (fu : Nat) (d' : bden F_R1_LooseQuoted_hp) (r0 : (List UInt8) → Int → (List UInt8) → Option ((List UInt8))) (h0 : LabOk (F_R1_LooseQuoted_cx fu) (bput F_R1_LooseQuoted_hp d') F_R1_LooseQuoted_out (bodyOf Tryd.f25) (F_R1_LooseQuoted_l0 r0)) (r6 : (List UInt8) → Int → Int → Int → Int → (List UInt8) → Option ((List UInt8))) (h6 : LabOk (F_R1_LooseQuoted_cx fu) (bput F_R1_LooseQuoted_hp d') F_R1_LooseQuoted_out (bodyOf Tryd.f25) (F_R1_LooseQuoted_l6 r6)) : LabOk (F_R1_LooseQuoted_cx fu) (bput F_R1_LooseQuoted_hp d') F_R1_LooseQuoted_out (bodyOf Tryd.f25) (F_R1_LooseQuoted_l6 (F_R1_LooseQuoted_b6 fu r0 r6)) :=
  LabOk.of_run (labs := [F_R1_LooseQuoted_l7 (F_R1_LooseQuoted_p7 fu r0 r6)]) (F_R1_LooseQuoted_cxok fu) (fun _ _ h => idsB_look h) (labs1 (F_R1_LooseQuoted_p7_ok fu d' r0 h0 r6 h6) labs0) (fun d => by kernel_rfl)
theorem F_R1_LooseQuoted_p6_ok (fu : Nat) (d' : bden F_R1_LooseQuoted_hp) (r0 : (List UInt8) → Int → (List UInt8) → Option ((List UInt8))) (h0 : LabOk (F_R1_LooseQuoted_cx fu) (bput F_R1_LooseQuoted_hp d') F_R1_LooseQuoted_out (bodyOf Tryd.f25) (F_R1_LooseQuoted_l0 r0)) : ∀ n, LabOk (F_R1_LooseQuoted_cx fu) (bput F_R1_LooseQuoted_hp d') F_R1_LooseQuoted_out (bodyOf Tryd.f25) (F_R1_LooseQuoted_l6 (F_R1_LooseQuoted_p6 fu r0 n))
  | 0 => fun _ _ h => by cases h
  | n + 1 => F_R1_LooseQuoted_b6_ok fu d' r0 h0 (F_R1_LooseQuoted_p6 fu r0 n) (F_R1_LooseQuoted_p6_ok fu d' r0 h0 n)
theorem F_R1_LooseQuoted_p5_ok (fu : Nat) (d' : bden F_R1_LooseQuoted_hp) (r0 : (List UInt8) → Int → (List UInt8) → Option ((List UInt8))) (h0 : LabOk (F_R1_LooseQuoted_cx fu) (bput F_R1_LooseQuoted_hp d') F_R1_LooseQuoted_out (bodyOf Tryd.f25) (F_R1_LooseQuoted_l0 r0)) : LabOk (F_R1_LooseQuoted_cx fu) (bput F_R1_LooseQuoted_hp d') F_R1_LooseQuoted_out (bodyOf Tryd.f25) (F_R1_LooseQuoted_l5 (F_R1_LooseQuoted_p5 fu r0)) :=
  LabOk.of_run (labs := [F_R1_LooseQuoted_l6 (F_R1_LooseQuoted_p6 fu r0 fu)]) (F_R1_LooseQuoted_cxok fu) (fun _ _ h => idsB_look h) (labs1 (F_R1_LooseQuoted_p6_ok fu d' r0 h0 fu) labs0) (fun d => by kernel_rfl)
theorem F_R1_LooseQuoted_p4_ok (fu : Nat) (d' : bden F_R1_LooseQuoted_hp) (r0 : (List UInt8) → Int → (List UInt8) → Option ((List UInt8))) (h0 : LabOk (F_R1_LooseQuoted_cx fu) (bput F_R1_LooseQuoted_hp d') F_R1_LooseQuoted_out (bodyOf Tryd.f25) (F_R1_LooseQuoted_l0 r0)) : LabOk (F_R1_LooseQuoted_cx fu) (bput F_R1_LooseQuoted_hp d') F_R1_LooseQuoted_out (bodyOf Tryd.f25) (F_R1_LooseQuoted_l4 (F_R1_LooseQuoted_p4 fu r0)) :=
  LabOk.of_run (labs := [F_R1_LooseQuoted_l5 (F_R1_LooseQuoted_p5 fu r0)]) (F_R1_LooseQuoted_cxok fu) (fun _ _ h => idsB_look h) (labs1 (F_R1_LooseQuoted_p5_ok fu d' r0 h0) labs0) (fun d => by kernel_rfl)
theorem F_R1_LooseQuoted_p2_ok (fu : Nat) (d' : bden F_R1_LooseQuoted_hp) (r0 : (List UInt8) → Int → (List UInt8) → Option ((List UInt8))) (h0 : LabOk (F_R1_LooseQuoted_cx fu) (bput F_R1_LooseQuoted_hp d') F_R1_LooseQuoted_out (bodyOf Tryd.f25) (F_R1_LooseQuoted_l0 r0)) (r1 : (List UInt8) → Int → Int → (List UInt8) → Option ((List UInt8))) (h1 : LabOk (F_R1_LooseQuoted_cx fu) (bput F_R1_LooseQuoted_hp d') F_R1_LooseQuoted_out (bodyOf Tryd.f25) (F_R1_LooseQuoted_l1 r1)) : LabOk (F_R1_LooseQuoted_cx fu) (bput F_R1_LooseQuoted_hp d') F_R1_LooseQuoted_out (bodyOf Tryd.f25) (F_R1_LooseQuoted_l2 (F_R1_LooseQuoted_p2 fu r0 r1)) :=
  LabOk.of_run (labs := [F_R1_LooseQuoted_l3 (F_R1_LooseQuoted_p3 fu r0 r1), F_R1_LooseQuoted_l4 (F_R1_LooseQuoted_p4 fu r0)]) (F_R1_LooseQuoted_cxok fu) (fun _ _ h => idsB_look h) (labs1 (F_R1_LooseQuoted_p3_ok fu d' r0 h0 r1 h1) (labs1 (F_R1_LooseQuoted_p4_ok fu d' r0 h0) labs0)) (fun d => by kernel_rfl)
theorem F_R1_LooseQuoted_b1_ok (fu : Nat) (d' : bden F_R1_LooseQuoted_hp) (r0 : (List UInt8) → Int → (List UInt8) → Option ((List UInt8))) (h0 : LabOk (F_R1_LooseQuoted_cx fu) (bput F_R1_LooseQuoted_hp d') F_R1_LooseQuoted_out (bodyOf Tryd.f25) (F_R1_LooseQuoted_l0 r0)) (r1 : (List UInt8) → Int → Int → (List UInt8) → Option ((List UInt8))) (h1 : LabOk (F_R1_LooseQuoted_cx fu) (bput F_R1_LooseQuoted_hp d') F_R1_LooseQuoted_out (bodyOf Tryd.f25) (F_R1_LooseQuoted_l1 r1)) : LabOk (F_R1_LooseQuoted_cx fu) (bput F_R1_LooseQuoted_hp d') F_R1_LooseQuoted_out (bodyOf Tryd.f25) (F_R1_LooseQuoted_l1 (F_R1_LooseQuoted_b1 fu r0 r1)) :=
  LabOk.of_run (labs := [F_R1_LooseQuoted_l2 (F_R1_LooseQuoted_p2 fu r0 r1)]) (F_R1_LooseQuoted_cxok fu) (fun _ _ h => idsB_look h) (labs1 (F_R1_LooseQuoted_p2_ok fu d' r0 h0 r1 h1) labs0) (fun d => by kernel_rfl)
theorem F_R1_LooseQuoted_p1_ok (fu : Nat) (d' : bden F_R1_LooseQuoted_hp) (r0 : (List UInt8) → Int → (List UInt8) → Option ((List UInt8))) (h0 : LabOk (F_R1_LooseQuoted_cx fu) (bput F_R1_LooseQuoted_hp d') F_R1_LooseQuoted_out (bodyOf Tryd.f25) (F_R1_LooseQuoted_l0 r0)) : ∀ n, LabOk (F_R1_LooseQuoted_cx fu) (bput F_R1_LooseQuoted_hp d') F_R1_LooseQuoted_out (bodyOf Tryd.f25) (F_R1_LooseQuoted_l1 (F_R1_LooseQuoted_p1 fu r0 n))
  | 0 => fun _ _ h => by cases h
  | n + 1 => F_R1_LooseQuoted_b1_ok fu d' r0 h0 (F_R1_LooseQuoted_p1 fu r0 n) (F_R1_LooseQuoted_p1_ok fu d' r0 h0 n)
theorem F_R1_LooseQuoted_b0_ok (fu : Nat) (d' : bden F_R1_LooseQuoted_hp) (r0 : (List UInt8) → Int → (List UInt8) → Option ((List UInt8))) (h0 : LabOk (F_R1_LooseQuoted_cx fu) (bput F_R1_LooseQuoted_hp d') F_R1_LooseQuoted_out (bodyOf Tryd.f25) (F_R1_LooseQuoted_l0 r0)) : LabOk (F_R1_LooseQuoted_cx fu) (bput F_R1_LooseQuoted_hp d') F_R1_LooseQuoted_out (bodyOf Tryd.f25) (F_R1_LooseQuoted_l0 (F_R1_LooseQuoted_b0 fu r0)) :=
  LabOk.of_run (labs := [F_R1_LooseQuoted_l1 (F_R1_LooseQuoted_p1 fu r0 fu)]) (F_R1_LooseQuoted_cxok fu) (fun _ _ h => idsB_look h) (labs1 (F_R1_LooseQuoted_p1_ok fu d' r0 h0 fu) labs0) (fun d => by kernel_rfl)
theorem F_R1_LooseQuoted_p0_ok (fu : Nat) (d' : bden F_R1_LooseQuoted_hp) : ∀ n, LabOk (F_R1_LooseQuoted_cx fu) (bput F_R1_LooseQuoted_hp d') F_R1_LooseQuoted_out (bodyOf Tryd.f25) (F_R1_LooseQuoted_l0 (F_R1_LooseQuoted_p0 fu n))
  | 0 => fun _ _ h => by cases h
  | n + 1 => F_R1_LooseQuoted_b0_ok fu d' (F_R1_LooseQuoted_p0 fu n) (F_R1_LooseQuoted_p0_ok fu d' n)
theorem F_R1_LooseQuoted_ok (fu : Nat) : (F_R1_LooseQuoted_ent (F_R1_LooseQuoted fu)).Sound Tryd.prog :=
  Ent.sound_fn (cx := F_R1_LooseQuoted_cx fu) (labs := [F_R1_LooseQuoted_l0 (F_R1_LooseQuoted_p0 fu fu)]) (F_R1_LooseQuoted_cxok fu) rfl rfl rfl rfl Tryd.call25 (by kernel_rfl) (fun d' => (labs1 (F_R1_LooseQuoted_p0_ok fu d' fu) labs0)) (fun d d' => by kernel_rfl)
/- posthouse/posthouseref2.Untransferred -/
def F_R2_Untransferred_out : RS ((List UInt8)) := .one (α := (List UInt8)) (.h (.list .byte)) [] (fun r => (r, ())) (fun y => y.1) (fun _ => rfl)
def F_R2_Untransferred_hp : List (Nat × BPt) := []
def F_R2_Untransferred_args : List Pt := [.h (.list .byte), .h (.int .i64)]
def F_R2_Untransferred_ent (r : (List UInt8) → Int → Option ((List UInt8))) : Ent := { key := .fn 16, args := F_R2_Untransferred_args, hp := F_R2_Untransferred_hp, R := ((List UInt8)), F := fun d _ => r d.1 d.2.1, out := F_R2_Untransferred_out }
noncomputable def F_R2_Untransferred_cx (fu : Nat) : Cx := { P := Tryd.prog, tb := ⟨[F_R1_Loose64_ent (F_R1_Loose64 fu), F_R1_LooseQuoted_ent (F_R1_LooseQuoted fu)], etys, false⟩, fn := Tryd.f16, f := 16, ids := idsB F_R2_Untransferred_hp, rd := none, tags := [] }
theorem F_R2_Untransferred_cxok (fu : Nat) : (F_R2_Untransferred_cx fu).Ok (bodyOf Tryd.f16) := ⟨(ents1 (F_R1_Loose64_ok fu) (ents1 (F_R1_LooseQuoted_ok fu) ents0)), Tryd_mixed, Tryd.func16, tags0⟩
theorem F_R2_Untransferred_ok (fu : Nat) : (F_R2_Untransferred_ent (F_R2_Untransferred fu)).Sound Tryd.prog :=
  Ent.sound_fn (cx := F_R2_Untransferred_cx fu) (labs := []) (F_R2_Untransferred_cxok fu) rfl rfl rfl rfl Tryd.call16 (by kernel_rfl) (fun _ => labs0) (fun d d' => by kernel_rfl)
/- posthouse/posthouselaw2.TransferDecodeMatchesSpec -/
def F_W2_TransferDecodeMatchesSpec_out : RS Bool := .one (α := Bool) (.h .bool) [] (fun r => (r, ())) (fun y => y.1) (fun _ => rfl)
def F_W2_TransferDecodeMatchesSpec_hp : List (Nat × BPt) := []
def F_W2_TransferDecodeMatchesSpec_args : List Pt := [.h (.list .byte), .h .str]
def F_W2_TransferDecodeMatchesSpec_ent (r : (List UInt8) → (List UInt8) → Option Bool) : Ent := { key := .fn 4, args := F_W2_TransferDecodeMatchesSpec_args, hp := F_W2_TransferDecodeMatchesSpec_hp, R := Bool, F := fun d _ => r d.1 d.2.1, out := F_W2_TransferDecodeMatchesSpec_out }
noncomputable def F_W2_TransferDecodeMatchesSpec_cx (fu : Nat) : Cx := { P := Tryd.prog, tb := ⟨[F_W2_transferExample_ent (F_W2_transferExample fu), F_transfer_Decode_ent (F_transfer_Decode fu), F_R2_CodingOf_ent (F_R2_CodingOf fu), F_R1_At_ent F_R1_At, F_R2_Untransferred_ent (F_R2_Untransferred fu), F_R1_Bytes_ent F_R1_Bytes], etys, false⟩, fn := Tryd.f4, f := 4, ids := idsB F_W2_TransferDecodeMatchesSpec_hp, rd := none, tags := [] }
theorem F_W2_TransferDecodeMatchesSpec_cxok (fu : Nat) : (F_W2_TransferDecodeMatchesSpec_cx fu).Ok (bodyOf Tryd.f4) := ⟨(ents1 (F_W2_transferExample_ok fu) (ents1 (F_transfer_Decode_ok fu) (ents1 (F_R2_CodingOf_ok fu) (ents1 F_R1_At_ok (ents1 (F_R2_Untransferred_ok fu) (ents1 F_R1_Bytes_ok ents0)))))), Tryd_mixed, Tryd.func4, tags0⟩
theorem F_W2_TransferDecodeMatchesSpec_ok (fu : Nat) : (F_W2_TransferDecodeMatchesSpec_ent (F_W2_TransferDecodeMatchesSpec fu)).Sound Tryd.prog :=
  Ent.sound_fn (cx := F_W2_TransferDecodeMatchesSpec_cx fu) (labs := []) (F_W2_TransferDecodeMatchesSpec_cxok fu) rfl rfl rfl rfl Tryd.call4 (by kernel_rfl) (fun _ => labs0) (fun d d' => by kernel_rfl)
end Go.Sym
/- The Go functions compute the plain functions: printed by a program; each is reckoned by the kernel. -/
namespace Go.Sym
open Go.Proofs
set_option linter.unusedVariables false
set_option maxRecDepth 100000
/- posthouse/posthouselaw2.TransferChooseMatchesSpec -/
def F_W2_TransferChooseMatchesSpec_out : RS Bool := .one (α := Bool) (.h .bool) [] (fun r => (r, ())) (fun y => y.1) (fun _ => rfl)
def F_W2_TransferChooseMatchesSpec_hp : List (Nat × BPt) := []
def F_W2_TransferChooseMatchesSpec_args : List Pt := [.h (.list .byte)]
def F_W2_TransferChooseMatchesSpec_ent (r : (List UInt8) → Option Bool) : Ent := { key := .fn 5, args := F_W2_TransferChooseMatchesSpec_args, hp := F_W2_TransferChooseMatchesSpec_hp, R := Bool, F := fun d _ => r d.1, out := F_W2_TransferChooseMatchesSpec_out }
noncomputable def F_W2_TransferChooseMatchesSpec_cx (fu : Nat) : Cx := { P := Tryd.prog, tb := ⟨[F_W2_transferExample_ent (F_W2_transferExample fu), F_transfer_Choose_ent (F_transfer_Choose fu), F_R1_At_ent F_R1_At, F_R2_Refused_ent (F_R2_Refused fu), F_R1_Quoted_ent (F_R1_Quoted fu), F_R1_Lines64_ent (F_R1_Lines64 fu)], etys, false⟩, fn := Tryd.f5, f := 5, ids := idsB F_W2_TransferChooseMatchesSpec_hp, rd := none, tags := [] }
theorem F_W2_TransferChooseMatchesSpec_cxok (fu : Nat) : (F_W2_TransferChooseMatchesSpec_cx fu).Ok (bodyOf Tryd.f5) := ⟨(ents1 (F_W2_transferExample_ok fu) (ents1 (F_transfer_Choose_ok fu) (ents1 F_R1_At_ok (ents1 (F_R2_Refused_ok fu) (ents1 (F_R1_Quoted_ok fu) (ents1 (F_R1_Lines64_ok fu) ents0)))))), Tryd_mixed, Tryd.func5, tags0⟩
theorem F_W2_TransferChooseMatchesSpec_ok (fu : Nat) : (F_W2_TransferChooseMatchesSpec_ent (F_W2_TransferChooseMatchesSpec fu)).Sound Tryd.prog :=
  Ent.sound_fn (cx := F_W2_TransferChooseMatchesSpec_cx fu) (labs := []) (F_W2_TransferChooseMatchesSpec_cxok fu) rfl rfl rfl rfl Tryd.call5 (by kernel_rfl) (fun _ => labs0) (fun d d' => by kernel_rfl)
/- posthouse/posthouselaw2.TransferRoundTrip -/
def F_W2_TransferRoundTrip_out : RS Bool := .one (α := Bool) (.h .bool) [] (fun r => (r, ())) (fun y => y.1) (fun _ => rfl)
def F_W2_TransferRoundTrip_hp : List (Nat × BPt) := []
def F_W2_TransferRoundTrip_args : List Pt := [.h (.list .byte), .h .str]
def F_W2_TransferRoundTrip_ent (r : (List UInt8) → (List UInt8) → Option Bool) : Ent := { key := .fn 6, args := F_W2_TransferRoundTrip_args, hp := F_W2_TransferRoundTrip_hp, R := Bool, F := fun d _ => r d.1 d.2.1, out := F_W2_TransferRoundTrip_out }
noncomputable def F_W2_TransferRoundTrip_cx (fu : Nat) : Cx := { P := Tryd.prog, tb := ⟨[F_W2_transferExample_ent (F_W2_transferExample fu), F_transfer_Encode_ent (F_transfer_Encode fu), F_transfer_Decode_ent (F_transfer_Decode fu), F_R1_Bytes_ent F_R1_Bytes], etys, false⟩, fn := Tryd.f6, f := 6, ids := idsB F_W2_TransferRoundTrip_hp, rd := none, tags := [] }
theorem F_W2_TransferRoundTrip_cxok (fu : Nat) : (F_W2_TransferRoundTrip_cx fu).Ok (bodyOf Tryd.f6) := ⟨(ents1 (F_W2_transferExample_ok fu) (ents1 (F_transfer_Encode_ok fu) (ents1 (F_transfer_Decode_ok fu) (ents1 F_R1_Bytes_ok ents0)))), Tryd_mixed, Tryd.func6, tags0⟩
def F_W2_TransferRoundTrip_l1 (r : (List UInt8) → (List UInt8) → (List UInt8) → Option Bool) : Lab Bool := ⟨[(0, [0, 1, 1, 1, 1]), (0, [1, 1, 1, 1, 1])], ⟨47, [(0, .h (.list .byte)), (1, .h .str), (5, .own 16)], [(16, .row .byte 5)], 64, []⟩, fun d => r d.1.1 d.1.2.1 d.2.1⟩
def F_W2_TransferRoundTrip_l0 (r : (List UInt8) → (List UInt8) → Bool → (List UInt8) → (Int × Int) → Option Bool) : Lab Bool := ⟨[(0, [1, 0, 1, 1, 1]), (0, [1, 1, 1, 1])], ⟨47, [(0, .h (.list .byte)), (1, .h .str), (5, .own 16), (6, .ptr 17 0), (24, .h .bool)], [(16, .row .byte 5), (17, .dat (.prod (.int .i64) (.int .i64)) 25)], 64, []⟩, fun d => r d.1.1 d.1.2.1 d.1.2.2.2.2.1 d.2.1 d.2.2.1⟩
theorem F_W2_TransferRoundTrip_p1_ok (fu : Nat) (d' : bden F_W2_TransferRoundTrip_hp) : LabOk (F_W2_TransferRoundTrip_cx fu) (bput F_W2_TransferRoundTrip_hp d') F_W2_TransferRoundTrip_out (bodyOf Tryd.f6) (F_W2_TransferRoundTrip_l1 (F_W2_TransferRoundTrip_p1 fu)) :=
  LabOk.of_run (labs := []) (F_W2_TransferRoundTrip_cxok fu) (fun _ _ h => idsB_look h) labs0 (fun d => by kernel_rfl)
theorem F_W2_TransferRoundTrip_p0_ok (fu : Nat) (d' : bden F_W2_TransferRoundTrip_hp) : LabOk (F_W2_TransferRoundTrip_cx fu) (bput F_W2_TransferRoundTrip_hp d') F_W2_TransferRoundTrip_out (bodyOf Tryd.f6) (F_W2_TransferRoundTrip_l0 (F_W2_TransferRoundTrip_p0 fu)) :=
  LabOk.of_run (labs := [F_W2_TransferRoundTrip_l1 (F_W2_TransferRoundTrip_p1 fu)]) (F_W2_TransferRoundTrip_cxok fu) (fun _ _ h => idsB_look h) (labs1 (F_W2_TransferRoundTrip_p1_ok fu d') labs0) (fun d => by kernel_rfl)
theorem F_W2_TransferRoundTrip_ok (fu : Nat) : (F_W2_TransferRoundTrip_ent (F_W2_TransferRoundTrip fu)).Sound Tryd.prog :=
  Ent.sound_fn (cx := F_W2_TransferRoundTrip_cx fu) (labs := [F_W2_TransferRoundTrip_l0 (F_W2_TransferRoundTrip_p0 fu)]) (F_W2_TransferRoundTrip_cxok fu) rfl rfl rfl rfl Tryd.call6 (by kernel_rfl) (fun d' => (labs1 (F_W2_TransferRoundTrip_p0_ok fu d') labs0)) (fun d d' => by kernel_rfl)
/- posthouse/posthouselaw2.TransferChosenFits -/
def F_W2_TransferChosenFits_out : RS Bool := .one (α := Bool) (.h .bool) [] (fun r => (r, ())) (fun y => y.1) (fun _ => rfl)
def F_W2_TransferChosenFits_hp : List (Nat × BPt) := []
def F_W2_TransferChosenFits_args : List Pt := [.h (.list .byte)]
def F_W2_TransferChosenFits_ent (r : (List UInt8) → Option Bool) : Ent := { key := .fn 7, args := F_W2_TransferChosenFits_args, hp := F_W2_TransferChosenFits_hp, R := Bool, F := fun d _ => r d.1, out := F_W2_TransferChosenFits_out }
noncomputable def F_W2_TransferChosenFits_cx (fu : Nat) : Cx := { P := Tryd.prog, tb := ⟨[F_W2_transferExample_ent (F_W2_transferExample fu), F_transfer_Choose_ent (F_transfer_Choose fu), F_transfer_Encode_ent (F_transfer_Encode fu), F_R1_Bytes_ent F_R1_Bytes], etys, false⟩, fn := Tryd.f7, f := 7, ids := idsB F_W2_TransferChosenFits_hp, rd := none, tags := [] }
theorem F_W2_TransferChosenFits_cxok (fu : Nat) : (F_W2_TransferChosenFits_cx fu).Ok (bodyOf Tryd.f7) := ⟨(ents1 (F_W2_transferExample_ok fu) (ents1 (F_transfer_Choose_ok fu) (ents1 (F_transfer_Encode_ok fu) (ents1 F_R1_Bytes_ok ents0)))), Tryd_mixed, Tryd.func7, tags0⟩
def F_W2_TransferChosenFits_l1 (r : (List UInt8) → Option Bool) : Lab Bool := ⟨[(0, [0, 1, 1, 1, 1, 1, 1]), (0, [1, 1, 1, 1, 1, 1, 1])], ⟨51, [(5, .own 16)], [(16, .row .byte 5)], 64, []⟩, fun d => r d.2.1⟩
def F_W2_TransferChosenFits_l0 (r : Bool → (List UInt8) → (Int × Int) → Option Bool) : Lab Bool := ⟨[(0, [1, 0, 1, 1, 1, 1, 1]), (0, [1, 1, 1, 1, 1, 1])], ⟨51, [(5, .own 16), (6, .ptr 17 0), (34, .h .bool)], [(16, .row .byte 5), (17, .dat (.prod (.int .i64) (.int .i64)) 25)], 64, []⟩, fun d => r d.1.2.2.1 d.2.1 d.2.2.1⟩
theorem F_W2_TransferChosenFits_p1_ok (fu : Nat) (d' : bden F_W2_TransferChosenFits_hp) : LabOk (F_W2_TransferChosenFits_cx fu) (bput F_W2_TransferChosenFits_hp d') F_W2_TransferChosenFits_out (bodyOf Tryd.f7) (F_W2_TransferChosenFits_l1 (F_W2_TransferChosenFits_p1 fu)) :=
  LabOk.of_run (labs := []) (F_W2_TransferChosenFits_cxok fu) (fun _ _ h => idsB_look h) labs0 (fun d => by kernel_rfl)
theorem F_W2_TransferChosenFits_p0_ok (fu : Nat) (d' : bden F_W2_TransferChosenFits_hp) : LabOk (F_W2_TransferChosenFits_cx fu) (bput F_W2_TransferChosenFits_hp d') F_W2_TransferChosenFits_out (bodyOf Tryd.f7) (F_W2_TransferChosenFits_l0 (F_W2_TransferChosenFits_p0 fu)) :=
  LabOk.of_run (labs := [F_W2_TransferChosenFits_l1 (F_W2_TransferChosenFits_p1 fu)]) (F_W2_TransferChosenFits_cxok fu) (fun _ _ h => idsB_look h) (labs1 (F_W2_TransferChosenFits_p1_ok fu d') labs0) (fun d => by kernel_rfl)
theorem F_W2_TransferChosenFits_ok (fu : Nat) : (F_W2_TransferChosenFits_ent (F_W2_TransferChosenFits fu)).Sound Tryd.prog :=
  Ent.sound_fn (cx := F_W2_TransferChosenFits_cx fu) (labs := [F_W2_TransferChosenFits_l0 (F_W2_TransferChosenFits_p0 fu)]) (F_W2_TransferChosenFits_cxok fu) rfl rfl rfl rfl Tryd.call7 (by kernel_rfl) (fun d' => (labs1 (F_W2_TransferChosenFits_p0_ok fu d') labs0)) (fun d d' => by kernel_rfl)
end Go.Sym
/- Words for proofs about plain functions. -/
namespace Go.Sym

theorem w64_eq {x : Int} (h1 : -9223372036854775808 ≤ x) (h2 : x < 9223372036854775808) : w64 x = x := by
  unfold w64 IntKind.wrap
  simp [IntKind.signed, IntKind.bits]
  omega
theorem bif_t {α : Type} {b : Bool} {x y : α} (h : b = true) : (bif b then x else y) = x := by subst h; rfl
theorem bif_f {α : Type} {b : Bool} {x y : α} (h : b = false) : (bif b then x else y) = y := by subst h; rfl
theorem bif_d {α : Type} {p : Prop} [Decidable p] {x y : α} : (bif decide p then x else y) = if p then x else y := by by_cases h : p <;> simp [h]
theorem bif_dt {α : Type} {p : Prop} [Decidable p] {x y : α} (h : p) : (bif decide p then x else y) = x := bif_t (decide_eq_true h)
theorem bif_df {α : Type} {p : Prop} [Decidable p] {x y : α} (h : ¬ p) : (bif decide p then x else y) = y := bif_f (decide_eq_false h)
theorem bif_nd {α : Type} {p : Prop} [Decidable p] {x y : α} : (bif !decide p then x else y) = if p then y else x := by by_cases h : p <;> simp [h]
theorem bif_nb {α : Type} {b : Bool} {x y : α} : (bif !b then x else y) = if b = false then x else y := by cases b <;> rfl
theorem bif_bt {α : Type} {b : Bool} {x y : α} : (bif b then x else y) = if b = true then x else y := by cases b <;> rfl
theorem bif_ne {α : Type} {a b : Int} {x y : α} : (bif a != b then x else y) = if a ≠ b then x else y := by
  by_cases h : a = b
  · rw [bif_f (by simp [h]), if_neg (by simp [h])]
  · rw [bif_t (by simp [h]), if_pos h]
theorem bif_eq {α : Type} {a b : Int} {x y : α} : (bif a == b then x else y) = if a = b then x else y := by
  by_cases h : a = b
  · rw [bif_t (by simp [h]), if_pos h]
  · rw [bif_f (by simp [h]), if_neg h]
theorem bif_eq8 {α : Type} {a b : UInt8} {x y : α} : (bif a == b then x else y) = if a = b then x else y := by
  by_cases h : a = b
  · rw [bif_t (by simp [h]), if_pos h]
  · rw [bif_f (by simp [h]), if_neg h]
theorem bif_ne8 {α : Type} {a b : UInt8} {x y : α} : (bif a != b then x else y) = if a ≠ b then x else y := by
  by_cases h : a = b
  · rw [bif_f (by simp [h]), if_neg (by simp [h])]
  · rw [bif_t (by simp [h]), if_pos h]
theorem some_ite {α : Type} {p : Prop} [Decidable p] {x y : α} : (if p then some x else some y) = some (if p then x else y) := by split <;> rfl
theorem rowidx {α β : Type} (l : List α) (i : Int) (f : α → Option β) : (bif decide (0 ≤ i ∧ i.toNat < List.length l) then (l[i.toNat]?).bind f else none) = (idx l i).bind f := by
  unfold idx
  by_cases h : 0 ≤ i
  · by_cases h2 : i.toNat < l.length
    · simp [h, h2]
    · simp [h, h2]
  · simp [h]
theorem idx_nat {α : Type} (l : List α) (k : Nat) (h : k < l.length) : idx l (k : Int) = some l[k] := by
  unfold idx; rw [if_pos (by omega)]; simp [h]
theorem idx_mid {α : Type} (pre : List α) (c : α) (suf : List α) : idx (pre ++ c :: suf) (pre.length : Int) = some c := by
  unfold idx; rw [if_pos (by omega)]; simp
theorem get_mid {α : Type} (pre : List α) (c : α) (suf : List α) : (pre ++ c :: suf)[((pre.length : Nat) : Int).toNat]? = some c := by simp
theorem set_mid {α : Type} (pre : List α) (c d : α) (suf : List α) : List.set (pre ++ c :: suf) ((pre.length : Nat) : Int).toNat d = pre ++ d :: suf := by simp
theorem nx_nat (k : Nat) (h : k < 9223372036854775807) : w64 ((k : Int) + 1) = ((k + 1 : Nat) : Int) := by rw [w64_eq (by omega) (by omega)]; omega
end Go.Sym
/- Transfer: names of encodings, in plain words. -/
namespace Go.Sym

/-- a capital letter made small -/
def lo (c : UInt8) : UInt8 := if 65 ≤ c ∧ c ≤ 90 then c + 32 else c
theorem lo_add (c : UInt8) : (c + 97) - 65 = c + 32 := by
  rw [UInt8.sub_eq_add_neg, UInt8.add_assoc]; rfl
theorem lower_go (fu : Nat) : ∀ (n : Nat) (pre suf : List UInt8), suf.length < n → pre.length + suf.length ≤ 9223372036854775807 →
    F_basic_Lower_p0 fu n ((pre.length + suf.length : Nat) : Int) (pre.length : Int) (pre ++ suf) = some (pre ++ suf.map lo)
  | 0, _, _, h, _ => absurd h (by omega)
  | n + 1, pre, [], _, _ => by simp [F_basic_Lower_p0, F_basic_Lower_b0]
  | n + 1, pre, c :: suf, h, hb => by
    simp only [List.length_cons] at h hb
    have ih := fun d => lower_go fu n (pre ++ [d]) suf (by omega) (by simp; omega)
    simp only [List.length_append, List.length_cons, List.length_nil, List.append_assoc, List.singleton_append, Nat.zero_add] at ih
    have e : ((pre.length + (c :: suf).length : Nat) : Int) = ((pre.length + 1 + suf.length : Nat) : Int) := by simp only [List.length_cons]; omega
    have hl : 0 ≤ (pre.length : Int) ∧ (pre.length : Int).toNat < (pre ++ c :: suf).length := by simp
    rw [e]
    simp only [F_basic_Lower_p0, F_basic_Lower_b0]
    rw [bif_dt (by omega), bif_dt hl, get_mid, Option.bind_some, set_mid, nx_nat _ (by omega), bif_d, bif_d, ih, ih, bif_dt hl, Option.bind_some]
    unfold lo
    simp only [List.map_cons, lo_add]
    by_cases h1 : (65 : UInt8) ≤ c
    · by_cases h2 : c ≤ 90
      · simp [h1, h2]
      · simp [h1, h2]
    · simp [h1]
theorem lower_eq (fu : Nat) (s : List UInt8) (h : s.length < fu) (hb : s.length ≤ maxLen) : F_basic_Lower fu s = some (s.map lo) := by
  unfold F_basic_Lower
  rw [bif_dt hb]
  have := lower_go fu fu [] s h (by simpa [maxLen] using hb)
  simpa using this
theorem r1_in_eq (x a b : Int) : F_R1_In x a b = some (decide (a ≤ x ∧ x ≤ b)) := by
  unfold F_R1_In; by_cases h : a ≤ x <;> simp [h]
theorem toNat_le (a b : UInt8) : ((a.toNat : Int) ≤ (b.toNat : Int)) ↔ a ≤ b := by rw [UInt8.le_iff_toNat_le]; omega
theorem r1lower_go (fu : Nat) : ∀ (n : Nat) (pre suf : List UInt8), suf.length < n → pre.length + suf.length ≤ 9223372036854775807 →
    F_R1_Lower_p0 fu n (pre.length : Int) (pre ++ suf) = some (pre ++ suf.map lo)
  | 0, _, _, h, _ => absurd h (by omega)
  | n + 1, pre, [], _, _ => by simp [F_R1_Lower_p0, F_R1_Lower_b0]
  | n + 1, pre, c :: suf, h, hb => by
    simp only [List.length_cons] at h hb
    have ih := fun d => r1lower_go fu n (pre ++ [d]) suf (by omega) (by simp; omega)
    simp only [List.length_append, List.length_cons, List.length_nil, List.append_assoc, List.singleton_append, Nat.zero_add] at ih
    have hl : 0 ≤ (pre.length : Int) ∧ (pre.length : Int).toNat < (pre ++ c :: suf).length := by simp
    simp only [F_R1_Lower_p0, F_R1_Lower_b0]
    rw [bif_dt (by simp; omega), bif_dt hl, get_mid, Option.bind_some, r1_in_eq, Option.bind_some, nx_nat _ (by omega), bif_d, bif_dt hl, Option.bind_some, bif_dt hl, Option.bind_some, set_mid, ih, ih]
    unfold lo
    simp only [List.map_cons]
    have e1 := toNat_le 65 c
    have e2 := toNat_le c 90
    have q1 : ((65 : UInt8).toNat : Int) = 65 := rfl
    have q2 : ((90 : UInt8).toNat : Int) = 90 := rfl
    rw [q1] at e1; rw [q2] at e2
    by_cases h1 : (65 : UInt8) ≤ c ∧ c ≤ 90
    · rw [if_pos ⟨e1.2 h1.1, e2.2 h1.2⟩, if_pos h1]
    · rw [if_neg (fun q => h1 ⟨e1.1 q.1, e2.1 q.2⟩), if_neg h1]
theorem r1lower_eq (fu : Nat) (s : List UInt8) (h : s.length < fu) (hb : s.length ≤ maxLen) : F_R1_Lower fu s = some (s.map lo) := by
  unfold F_R1_Lower
  rw [bif_dt hb]
  have := r1lower_go fu fu [] s h (by simpa [maxLen] using hb)
  simpa using this
theorem same_eq (fu : Nat) (a b : List UInt8) (ha : a.length < fu) (hb : b.length < fu) (ha' : a.length ≤ maxLen) (hb' : b.length ≤ maxLen) : F_basic_Same fu a b = some (a.map lo == b.map lo) := by
  unfold F_basic_Same
  rw [bif_eq, lower_eq fu a ha ha', lower_eq fu b hb hb']
  by_cases h : (a.length : Int) = b.length
  · rw [if_pos h]; rfl
  · rw [if_neg h]
    have : (a.map lo == b.map lo) = false := by
      rw [beq_eq_false_iff_ne]; intro q; apply h; have := congrArg List.length q; simp only [List.length_map] at this; omega
    rw [this]
theorem alike_eq (fu : Nat) (a b : List UInt8) (ha : a.length < fu) (hb : b.length < fu) (ha' : a.length ≤ maxLen) (hb' : b.length ≤ maxLen) : F_R1_Alike fu a b = some (a.map lo == b.map lo) := by
  unfold F_R1_Alike
  rw [r1lower_eq fu a ha ha', r1lower_eq fu b hb hb']; rfl
abbrev n7 : List UInt8 := [55, 98, 105, 116]
abbrev n8 : List UInt8 := [56, 98, 105, 116]
abbrev n64 : List UInt8 := [98, 97, 115, 101, 54, 52]
abbrev nqp : List UInt8 := [113, 117, 111, 116, 101, 100, 45, 112, 114, 105, 110, 116, 97, 98, 108, 101]
/-- the number of an encoding -/
def cod (s : List UInt8) : Int := if n7.map lo = s.map lo then 0 else if n8.map lo = s.map lo then 1 else if n64.map lo = s.map lo then 2 else if nqp.map lo = s.map lo then 3 else -1
theorem bif_beqL {α : Type} {a b : List UInt8} {x y : α} : (bif a == b then x else y) = if a = b then x else y := by
  by_cases h : a = b
  · rw [bif_t (by simp [h]), if_pos h]
  · rw [bif_f (by simp [h]), if_neg h]
theorem coding_eq (fu : Nat) (s : List UInt8) (hf : 20 ≤ fu) (h : s.length < fu) (hb : s.length ≤ maxLen) : F_R2_CodingOf fu s = some (cod s) := by
  unfold F_R2_CodingOf
  have A : ∀ a : List UInt8, a.length ≤ 16 → F_R1_Alike fu a s = some (a.map lo == s.map lo) := fun a ha => alike_eq fu a s (by omega) h (by simp only [maxLen]; omega) hb
  simp only [bif_dt (show 0 ≤ (0 : Int) ∧ (0 : Int).toNat < List.length [n7, n8, n64, nqp] by decide), bif_dt (show 0 ≤ (1 : Int) ∧ (1 : Int).toNat < List.length [n7, n8, n64, nqp] by decide), bif_dt (show 0 ≤ (2 : Int) ∧ (2 : Int).toNat < List.length [n7, n8, n64, nqp] by decide), bif_dt (show 0 ≤ (3 : Int) ∧ (3 : Int).toNat < List.length [n7, n8, n64, nqp] by decide)]
  simp only [show ([n7, n8, n64, nqp])[(0 : Int).toNat]? = some n7 from rfl, show ([n7, n8, n64, nqp])[(1 : Int).toNat]? = some n8 from rfl, show ([n7, n8, n64, nqp])[(2 : Int).toNat]? = some n64 from rfl, show ([n7, n8, n64, nqp])[(3 : Int).toNat]? = some nqp from rfl, Option.bind_some]
  rw [A n7 (by decide), A n8 (by decide), A n64 (by decide), A nqp (by decide)]
  simp only [Option.bind_some, bif_beqL]
  unfold cod
  simp only [some_ite]
theorem find_eq (fu : Nat) (s : List UInt8) (hf : 20 ≤ fu) (h : s.length < fu) (hb : s.length ≤ maxLen) : F_transfer_find fu s = some (if cod s = 0 then .inl (n7, (true, 127)) else if cod s = 1 then .inl (n8, (true, 255)) else if cod s = 2 then .inr (.inl (n64, true)) else if cod s = 3 then .inr (.inr (.inl (nqp, true))) else .inr (.inr (.inr ([], false)))) := by
  unfold F_transfer_find F_transfer_plain
  have A : ∀ a : List UInt8, a.length ≤ 16 → F_basic_Same fu a s = some (a.map lo == s.map lo) := fun a ha => same_eq fu a s (by omega) h (by simp only [maxLen]; omega) hb
  simp only [Option.bind_some]
  rw [A n7 (by decide), A n8 (by decide), A n64 (by decide), A nqp (by decide)]
  simp only [Option.bind_some, bif_beqL]
  unfold cod
  by_cases h0 : n7.map lo = s.map lo
  · simp only [if_pos h0]; rfl
  · by_cases h1 : n8.map lo = s.map lo
    · simp only [if_neg h0, if_pos h1]; rfl
    · by_cases h2 : n64.map lo = s.map lo
      · simp only [if_neg h0, if_neg h1, if_pos h2]; rfl
      · by_cases h3 : nqp.map lo = s.map lo
        · simp only [if_neg h0, if_neg h1, if_neg h2, if_pos h3]; rfl
        · simp only [if_neg h0, if_neg h1, if_neg h2, if_neg h3]; rfl
end Go.Sym
/- Transfer: the first byte that is not permitted. -/
namespace Go.Sym

theorem crlf_nat (b : List UInt8) (i : Nat) (hb : b.length ≤ 4611686018427387904) (hi : i < b.length) : F_R1_Crlf b (i : Int) = some (decide (b[i]? = some 13 ∧ b[i + 1]? = some 10)) := by
  unfold F_R1_Crlf
  rw [nx_nat i (by omega), bif_d]
  by_cases h : i + 1 < b.length
  · rw [if_pos (by omega), idx_nat _ _ hi, Option.bind_some, bif_eq8, idx_nat _ _ h, Option.bind_some]
    have e1 : b[i]? = some b[i] := by simp [hi]
    have e2 : b[i + 1]? = some b[i + 1] := by simp [h]
    rw [e1, e2]
    by_cases h1 : b[i] = 13
    · rw [if_pos h1]; simp [h1]; rfl
    · rw [if_neg h1]; simp [h1]
  · rw [if_neg (by omega)]
    have e2 : b[i + 1]? = none := by simp; omega
    rw [e2]; simp
/-- the two ways to look for the first byte that is not permitted -/
theorem wrong_ref (fu fu' : Nat) (b : List UInt8) (e : Bool) (hb : b.length ≤ 4611686018427387904) : ∀ (n col i : Nat), col ≤ 998 → col ≤ i → i ≤ b.length →
    F_transfer_wrong_p0 fu n b (if e then 255 else 127) (col : Int) (i : Int) = F_R2_Refused_p0 fu' n b e ((i - col : Nat) : Int) (i : Int)
  | 0, _, _, _, _, _ => rfl
  | n + 1, col, i, h1, h2, h3 => by
    simp only [F_transfer_wrong_p0, F_R2_Refused_p0, F_transfer_wrong_b0, F_R2_Refused_b0]
    by_cases hi : i < b.length
    rotate_left
    · rw [bif_df (by omega), bif_df (by omega)]
    rw [bif_dt (by omega), bif_dt (by omega), crlf_nat b i hb hi, idx_nat _ _ hi, Option.bind_some, Option.bind_some]
    have e1 : b[i]? = some b[i] := by simp [hi]
    generalize hy : b[i] = y at *
    rw [e1]
    have ih := wrong_ref fu fu' b e hb n
    rw [nx_nat i (by omega)]
    have eqs : (bif y == (13 : UInt8) then
        bif decide (((i + 1 : Nat) : Int) < (b.length : Int)) then (idx b ((i + 1 : Nat) : Int)).bind fun y2 => F_transfer_wrong_p1 fu (F_transfer_wrong_p0 fu n) b (if e then 255 else 127) (col : Int) (i : Int) y (y2 == 10)
        else F_transfer_wrong_p1 fu (F_transfer_wrong_p0 fu n) b (if e then 255 else 127) (col : Int) (i : Int) y false
      else F_transfer_wrong_p1 fu (F_transfer_wrong_p0 fu n) b (if e then 255 else 127) (col : Int) (i : Int) y false)
      = F_transfer_wrong_p1 fu (F_transfer_wrong_p0 fu n) b (if e then 255 else 127) (col : Int) (i : Int) y (decide (some y = some 13 ∧ b[i + 1]? = some 10)) := by
      rw [bif_eq8]
      by_cases c : y = 13
      · rw [if_pos c, bif_d]
        by_cases k : i + 1 < b.length
        · rw [if_pos (by omega), idx_nat _ _ k, Option.bind_some]
          congr 1
          have : b[i + 1]? = some b[i + 1] := by simp [k]
          rw [this]; simp [c]
          rw [Bool.eq_iff_iff]; simp
        · rw [if_neg (by omega)]
          congr 1
          have : b[i + 1]? = none := by simp; omega
          rw [this]; simp
      · rw [if_neg c]; congr 1; simp [c]
    rw [eqs]
    simp only [F_transfer_wrong_p1]
    by_cases c : some y = some 13 ∧ b[i + 1]? = some 10
    · rw [bif_dt c, bif_dt c]
      have k : i + 1 < b.length := by
        have := c.2
        rcases Nat.lt_or_ge (i + 1) b.length with q | q
        · exact q
        · have : b[i + 1]? = none := by simp; omega
          rw [this] at c; cases c.2
      simp only [nx_nat i (show i < 9223372036854775807 by omega), nx_nat (i + 1) (show i + 1 < 9223372036854775807 by omega)]
      exact ih 0 (i + 1 + 1) (by omega) (by omega) (by omega)
    · rw [bif_df c, bif_df c]
      simp only [F_transfer_wrong_p2, bif_eq8, bif_eq, bif_d]
      by_cases y0 : y = 0
      · subst y0; simp
      by_cases y13 : y = 13
      · subst y13; simp
      by_cases y10 : y = 10
      · subst y10; simp
      simp only [if_neg y0, if_neg y13, if_neg y10]
      have hsub : w64 ((i : Int) - ((i - col : Nat) : Int)) = (col : Int) := by rw [w64_eq (by omega) (by omega)]; omega
      rw [hsub]
      have nxc : w64 ((col : Int) + 1) = ((col + 1 : Nat) : Int) := nx_nat col (by omega)
      simp only [nxc, nx_nat i (show i < 9223372036854775807 by omega)]
      have step : (if (col : Int) = 998 then some (i : Int) else F_transfer_wrong_p0 fu n b (if e then 255 else 127) ((col + 1 : Nat) : Int) ((i + 1 : Nat) : Int))
          = (if (998 : Int) ≤ (col : Int) then some (i : Int) else F_R2_Refused_p0 fu' n b e ((i - col : Nat) : Int) ((i + 1 : Nat) : Int)) := by
        by_cases q : col = 998
        · rw [if_pos (show (col : Int) = 998 by omega), if_pos (show (998 : Int) ≤ (col : Int) by omega)]
        · rw [if_neg (show ¬ (col : Int) = 998 by omega), if_neg (show ¬ (998 : Int) ≤ (col : Int) by omega)]
          have := ih (col + 1) (i + 1) (by omega) (by omega) (by omega)
          rw [this, show i + 1 - (col + 1) = i - col by omega]
      rw [step]
      cases e
      · by_cases q : (127 : UInt8) < y
        · simp [q, y0, y13, y10]
        · simp [q, y0, y13, y10]
      · have q : ¬ (255 : UInt8) < y := by
          rw [UInt8.lt_iff_toNat_lt]; have := y.toNat_lt; have : (255 : UInt8).toNat = 255 := rfl; omega
        by_cases q2 : (127 : UInt8) < y
        · simp [q, q2, y0, y13, y10]
        · simp [q, q2, y0, y13, y10]
theorem wrong_eq (fu fu' : Nat) (b : List UInt8) (e : Bool) (hb : b.length ≤ 4611686018427387904) : F_transfer_wrong fu b (if e then 255 else 127) = F_R2_Refused_p0 fu' fu b e 0 0 := by
  exact wrong_ref fu fu' b e hb fu 0 0 (by omega) (by omega) (by omega)
/-- it comes to an end -/
theorem refused_some (fu : Nat) (b : List UInt8) (e : Bool) (hb : b.length ≤ 4611686018427387904) : ∀ (n bg i : Nat), bg ≤ i → i ≤ b.length → b.length - i < n →
    ∃ r, F_R2_Refused_p0 fu n b e (bg : Int) (i : Int) = some r ∧ (r = -1 ∨ (0 ≤ r ∧ r < b.length))
  | 0, _, _, _, _, h => absurd h (by omega)
  | n + 1, bg, i, h1, h2, h3 => by
    simp only [F_R2_Refused_p0, F_R2_Refused_b0]
    by_cases hi : i < b.length
    rotate_left
    · rw [bif_df (by omega)]; exact ⟨_, rfl, .inl rfl⟩
    rw [bif_dt (by omega), crlf_nat b i hb hi, idx_nat _ _ hi, Option.bind_some, nx_nat i (by omega)]
    have here : ∃ r, some (i : Int) = some r ∧ (r = -1 ∨ (0 ≤ r ∧ r < (b.length : Int))) := ⟨_, rfl, .inr ⟨by omega, by omega⟩⟩
    have next := refused_some fu b e hb n bg (i + 1) (by omega) (by omega) (by omega)
    simp only [Option.bind_some, bif_eq8, bif_d, bif_nb]
    split
    · rename_i c
      have k : i + 1 < b.length := by
        rcases Nat.lt_or_ge (i + 1) b.length with q | q
        · exact q
        · have : b[i + 1]? = none := by simp; omega
          rw [this] at c; cases c.2
      rw [nx_nat (i + 1) (by omega)]
      exact refused_some fu b e hb n (i + 2) (i + 2) (by omega) (by omega) (by omega)
    · split
      · exact here
      · split
        · exact here
        · split
          · exact here
          · split
            · split
              · exact here
              · split
                · exact here
                · exact next
            · split
              · exact here
              · exact next
/-- more fuel does not matter -/
theorem refused_more (fu fu' : Nat) (b : List UInt8) (e : Bool) : ∀ (n : Nat) (bg i r : Int) (m : Nat), n ≤ m → F_R2_Refused_p0 fu n b e bg i = some r → F_R2_Refused_p0 fu' m b e bg i = some r
  | 0, _, _, _, _, _, h => by cases h
  | n + 1, bg, i, r, 0, hm, h => absurd hm (by omega)
  | n + 1, bg, i, r, m + 1, hm, h => by
    have ih := fun bg i => refused_more fu fu' b e n bg i r m (by omega)
    simp only [F_R2_Refused_p0, F_R2_Refused_b0, bif_d] at h ⊢
    split at h
    · rename_i c
      rw [if_pos c]
      cases hc : F_R1_Crlf b i with
      | none => rw [hc] at h; cases h
      | some x =>
        rw [hc] at h
        simp only [Option.bind_some] at h ⊢
        cases x with
        | true => exact ih _ _ h
        | false =>
          simp only [cond_false] at h ⊢
          cases hi : idx b i with
          | none => rw [hi] at h; cases h
          | some y =>
            rw [hi] at h
            simp only [Option.bind_some, bif_eq8] at h ⊢
            split at h
            · rename_i q; rw [if_pos q]; exact h
            · rename_i q1
              rw [if_neg q1]
              split at h
              · rename_i q; rw [if_pos q]; exact h
              · rename_i q2
                rw [if_neg q2]
                split at h
                · rename_i q; rw [if_pos q]; exact h
                · rename_i q3
                  rw [if_neg q3]
                  split at h
                  · rename_i q4
                    rw [if_pos q4]
                    cases e with
                    | false => exact h
                    | true =>
                      simp only [Bool.not_true, cond_false] at h ⊢
                      split at h
                      · rename_i q; rw [if_pos q]; exact h
                      · rename_i q; rw [if_neg q]; exact ih _ _ h
                  · rename_i q4
                    rw [if_neg q4]
                    split at h
                    · rename_i q; rw [if_pos q]; exact h
                    · rename_i q; rw [if_neg q]; exact ih _ _ h
    · rename_i c
      rw [if_neg c]; exact h
/-- the first byte that is not permitted, or -1 -/
def refd (b : List UInt8) (e : Bool) : Int := (F_R2_Refused_p0 0 (b.length + 1) b e 0 0).getD 0
theorem refd_spec (fu n : Nat) (b : List UInt8) (e : Bool) (hb : b.length ≤ 4611686018427387904) (hn : b.length < n) : F_R2_Refused_p0 fu n b e 0 0 = some (refd b e) ∧ (refd b e = -1 ∨ (0 ≤ refd b e ∧ refd b e < b.length)) := by
  obtain ⟨r, h1, h2⟩ := refused_some 0 b e hb (b.length + 1) 0 0 (by omega) (by omega) (by omega)
  have e0 : refd b e = r := by
    unfold refd
    have h1' : F_R2_Refused_p0 0 (b.length + 1) b e 0 0 = some r := h1
    rw [h1']; rfl
  rw [e0]
  exact ⟨refused_more 0 fu b e _ _ _ r n (by omega) h1, h2⟩
theorem refused_eq (fu : Nat) (b : List UInt8) (e : Bool) (hb : b.length ≤ 4611686018427387904) (hn : b.length < fu) : F_R2_Refused fu b e = some (refd b e) := (refd_spec fu fu b e hb hn).1
theorem wrong_is (fu : Nat) (b : List UInt8) (e : Bool) (hb : b.length ≤ 4611686018427387904) (hn : b.length < fu) : F_transfer_wrong fu b (if e then 255 else 127) = some (refd b e) := by
  rw [wrong_eq fu 0 b e hb]; exact (refd_spec 0 fu b e hb hn).1
theorem refd_lo (b : List UInt8) (e : Bool) (hb : b.length ≤ 4611686018427387904) : -1 ≤ refd b e := by
  rcases (refd_spec 0 (b.length + 1) b e hb (by omega)).2 with h | h <;> omega
end Go.Sym
/- base64.Encode in plain words. -/
namespace Go.Sym

def alpha : List UInt8 := [65, 66, 67, 68, 69, 70, 71, 72, 73, 74, 75, 76, 77, 78, 79, 80, 81, 82, 83, 84, 85, 86, 87, 88, 89, 90, 97, 98, 99, 100, 101, 102, 103, 104, 105, 106, 107, 108, 109, 110, 111, 112, 113, 114, 115, 116, 117, 118, 119, 120, 121, 122, 48, 49, 50, 51, 52, 53, 54, 55, 56, 57, 43, 47]
def al (k : Nat) : UInt8 := alpha.getD k 0
theorem al_idx (k : Nat) (h : k < 64) : idx alpha (k : Int) = some (al k) := by
  have h' : k < alpha.length := h
  rw [idx_nat _ _ h']; unfold al; simp [h']
def c0 (x : Nat) : UInt8 := al (x / 262144 % 64)
def c1 (x : Nat) : UInt8 := al (x / 4096 % 64)
def c2 (x : Nat) : UInt8 := al (x / 64 % 64)
def c3 (x : Nat) : UInt8 := al (x % 64)
/-- the characters -/
def e64 : List UInt8 → List UInt8
  | [] => []
  | [a] => [c0 (a.toNat * 65536), c1 (a.toNat * 65536), 61, 61]
  | [a, b] => [c0 (a.toNat * 65536 + b.toNat * 256), c1 (a.toNat * 65536 + b.toNat * 256), c2 (a.toNat * 65536 + b.toNat * 256), 61]
  | a :: b :: c :: r => c0 (a.toNat * 65536 + b.toNat * 256 + c.toNat) :: c1 (a.toNat * 65536 + b.toNat * 256 + c.toNat) :: c2 (a.toNat * 65536 + b.toNat * 256 + c.toNat) :: c3 (a.toNat * 65536 + b.toNat * 256 + c.toNat) :: e64 r
theorem ofInt_nat (x : Nat) (h : x < 18446744073709551616) : (BitVec.ofInt 64 (x : Int)).toNat = x := by
  rw [BitVec.toNat_ofInt]; omega
theorem shl8 (x : Nat) (h : x < 1099511627776) : w64 ((x : Int) * 2 ^ min (8 : Int).toNat 64) = ((256 * x : Nat) : Int) := by
  rw [show (2 : Int) ^ min (8 : Int).toNat 64 = 256 by decide, w64_eq (by omega) (by omega)]; omega
theorem or8 (x y : Nat) (h : x < 1099511627776) (hy : y < 256) : w64 (((BitVec.ofInt 64 (w64 ((x : Int) * 2 ^ min (8 : Int).toNat 64)) ||| BitVec.ofInt 64 (y : Int)).toNat : Int)) = ((256 * x + y : Nat) : Int) := by
  rw [shl8 x h, BitVec.toNat_or, ofInt_nat _ (by omega), ofInt_nat _ (by omega)]
  have := Nat.two_pow_add_eq_or_of_lt (i := 8) (b := y) (by simpa using hy) x
  rw [← show 2 ^ 8 * x + y = 256 * x ||| y from this]
  rw [w64_eq (by omega) (by omega)]
theorem or0 (y : Nat) (hy : y < 256) : w64 (((BitVec.ofInt 64 (0 : Int) ||| BitVec.ofInt 64 (y : Int)).toNat : Int)) = (y : Int) := by
  have h0 : (BitVec.ofInt 64 (0 : Int)).toNat = 0 := ofInt_nat 0 (by omega)
  rw [BitVec.toNat_or, h0, ofInt_nat _ (by omega), Nat.zero_or, w64_eq (by omega) (by omega)]
theorem and63 (x k : Nat) (p : Int) (hp : p = (k : Int)) (hk : k ≤ 30) (h : x < 1099511627776) : w64 (((BitVec.ofInt 64 (Int.fdiv (x : Int) (2 ^ min p.toNat 64)) &&& BitVec.ofInt 64 (63 : Int)).toNat : Int)) = ((x / 2 ^ k % 64 : Nat) : Int) := by
  subst hp
  have e1 : min (k : Int).toNat 64 = k := by omega
  have e2 : Int.fdiv (x : Int) (2 ^ k) = ((x / 2 ^ k : Nat) : Int) := by
    rw [Int.fdiv_eq_ediv_of_nonneg _ (by exact Int.le_of_lt (Int.pow_pos (by decide)))]
    simp
  have hle : x / 2 ^ k ≤ x := Nat.div_le_self _ _
  have h63 : (BitVec.ofInt 64 (63 : Int)).toNat = 63 := ofInt_nat 63 (by omega)
  rw [e1, e2, BitVec.toNat_and, ofInt_nat _ (by omega), h63]
  have := Nat.and_two_pow_sub_one_eq_mod (x / 2 ^ k) 6
  rw [show (63 : Nat) = 2 ^ 6 - 1 by decide, this, show (2 : Nat) ^ 6 = 64 by decide]
  rw [w64_eq (by omega) (by omega)]
theorem and63_18 (x : Nat) (h : x < 1099511627776) : idx alpha (w64 (((BitVec.ofInt 64 (Int.fdiv (x : Int) (2 ^ min (18 : Int).toNat 64)) &&& BitVec.ofInt 64 (63 : Int)).toNat : Int))) = some (c0 x) := by
  rw [and63 x 18 18 rfl (by omega) h, al_idx _ (by omega)]; rfl
theorem and63_12 (x : Nat) (h : x < 1099511627776) : idx alpha (w64 (((BitVec.ofInt 64 (Int.fdiv (x : Int) (2 ^ min (12 : Int).toNat 64)) &&& BitVec.ofInt 64 (63 : Int)).toNat : Int))) = some (c1 x) := by
  rw [and63 x 12 12 rfl (by omega) h, al_idx _ (by omega)]; rfl
theorem and63_6 (x : Nat) (h : x < 1099511627776) : idx alpha (w64 (((BitVec.ofInt 64 (Int.fdiv (x : Int) (2 ^ min (6 : Int).toNat 64)) &&& BitVec.ofInt 64 (63 : Int)).toNat : Int))) = some (c2 x) := by
  rw [and63 x 6 6 rfl (by omega) h, al_idx _ (by omega)]; rfl
theorem and63_0 (x : Nat) (h : x < 1099511627776) : idx alpha (w64 (((BitVec.ofInt 64 (Int.fdiv (x : Int) (2 ^ min (0 : Int).toNat 64)) &&& BitVec.ofInt 64 (63 : Int)).toNat : Int))) = some (c3 x) := by
  rw [and63 x 0 0 rfl (by omega) h, al_idx _ (by omega)]; unfold c3; simp
/-- one group goes out -/
def put4 (r0 : List UInt8 → Int → List UInt8 → Option (List UInt8 × Int × List UInt8)) (k : Nat) (p0 p1 p2 p3 : UInt8) (m1 : List UInt8) (m3 : Int) (m16 : List UInt8) : Option (List UInt8 × Int × List UInt8) :=
  (F_base64_Encode_r0 p0 p1 p2 p3 m3 m16).bind fun v => r0 (m1.drop k) v.1 v.2
theorem p3_1 (fu : Nat) (r0 : List UInt8 → Int → List UInt8 → Option (List UInt8 × Int × List UInt8)) (x : Nat) (hx : x < 1099511627776) (m1 : List UInt8) (h : 1 ≤ m1.length) (m3 : Int) (m16 : List UInt8) :
    F_base64_groups_1_p3 fu r0 1 (x : Int) m1 m3 m16 = put4 r0 1 (c0 x) (c1 x) 61 61 m1 m3 m16 := by
  unfold F_base64_groups_1_p3
  rw [show ([65, 66, 67, 68, 69, 70, 71, 72, 73, 74, 75, 76, 77, 78, 79, 80, 81, 82, 83, 84, 85, 86, 87, 88, 89, 90, 97, 98, 99, 100, 101, 102, 103, 104, 105, 106, 107, 108, 109, 110, 111, 112, 113, 114, 115, 116, 117, 118, 119, 120, 121, 122, 48, 49, 50, 51, 52, 53, 54, 55, 56, 57, 43, 47] : List UInt8) = alpha from rfl]
  rw [and63_18 x hx, and63_12 x hx, and63_6 x hx, and63_0 x hx]
  simp only [Option.bind_some, bif_df (show ¬ (1 : Int) < 0 by decide), bif_df (show ¬ (1 : Int) < 1 by decide), bif_dt (show (1 : Int) < 2 by decide), bif_dt (show (1 : Int) < 3 by decide), bif_dt (show 0 ≤ (1 : Int) ∧ (1 : Int) ≤ (m1.length : Int) by omega)]
  rfl
theorem p3_2 (fu : Nat) (r0 : List UInt8 → Int → List UInt8 → Option (List UInt8 × Int × List UInt8)) (x : Nat) (hx : x < 1099511627776) (m1 : List UInt8) (h : 2 ≤ m1.length) (m3 : Int) (m16 : List UInt8) :
    F_base64_groups_1_p3 fu r0 2 (x : Int) m1 m3 m16 = put4 r0 2 (c0 x) (c1 x) (c2 x) 61 m1 m3 m16 := by
  unfold F_base64_groups_1_p3
  rw [show ([65, 66, 67, 68, 69, 70, 71, 72, 73, 74, 75, 76, 77, 78, 79, 80, 81, 82, 83, 84, 85, 86, 87, 88, 89, 90, 97, 98, 99, 100, 101, 102, 103, 104, 105, 106, 107, 108, 109, 110, 111, 112, 113, 114, 115, 116, 117, 118, 119, 120, 121, 122, 48, 49, 50, 51, 52, 53, 54, 55, 56, 57, 43, 47] : List UInt8) = alpha from rfl]
  rw [and63_18 x hx, and63_12 x hx, and63_6 x hx, and63_0 x hx]
  simp only [Option.bind_some, bif_df (show ¬ (2 : Int) < 0 by decide), bif_df (show ¬ (2 : Int) < 1 by decide), bif_df (show ¬ (2 : Int) < 2 by decide), bif_dt (show (2 : Int) < 3 by decide), bif_dt (show 0 ≤ (2 : Int) ∧ (2 : Int) ≤ (m1.length : Int) by omega)]
  rfl
theorem p3_3 (fu : Nat) (r0 : List UInt8 → Int → List UInt8 → Option (List UInt8 × Int × List UInt8)) (x : Nat) (hx : x < 1099511627776) (m1 : List UInt8) (h : 3 ≤ m1.length) (m3 : Int) (m16 : List UInt8) :
    F_base64_groups_1_p3 fu r0 3 (x : Int) m1 m3 m16 = put4 r0 3 (c0 x) (c1 x) (c2 x) (c3 x) m1 m3 m16 := by
  unfold F_base64_groups_1_p3
  rw [show ([65, 66, 67, 68, 69, 70, 71, 72, 73, 74, 75, 76, 77, 78, 79, 80, 81, 82, 83, 84, 85, 86, 87, 88, 89, 90, 97, 98, 99, 100, 101, 102, 103, 104, 105, 106, 107, 108, 109, 110, 111, 112, 113, 114, 115, 116, 117, 118, 119, 120, 121, 122, 48, 49, 50, 51, 52, 53, 54, 55, 56, 57, 43, 47] : List UInt8) = alpha from rfl]
  rw [and63_18 x hx, and63_12 x hx, and63_6 x hx, and63_0 x hx]
  simp only [Option.bind_some, bif_df (show ¬ (3 : Int) < 0 by decide), bif_df (show ¬ (3 : Int) < 1 by decide), bif_df (show ¬ (3 : Int) < 2 by decide), bif_df (show ¬ (3 : Int) < 3 by decide), bif_dt (show 0 ≤ (3 : Int) ∧ (3 : Int) ≤ (m1.length : Int) by omega)]
  rfl
/-- one round of the groups -/
theorem b0_1 (fu : Nat) (r0 : List UInt8 → Int → List UInt8 → Option (List UInt8 × Int × List UInt8)) (a : UInt8) (m3 : Int) (m16 : List UInt8) :
    F_base64_groups_1_b0 fu r0 [a] m3 m16 = put4 r0 1 (c0 (a.toNat * 65536)) (c1 (a.toNat * 65536)) 61 61 [a] m3 m16 := by
  have ha := a.toNat_lt
  unfold F_base64_groups_1_b0
  have hm : (if (List.length [a] : Int) < 3 then (List.length [a] : Int) else 3) = 1 := rfl
  rw [hm, bif_dt (show (0 : Int) < (List.length [a] : Int) by simp), bif_dt (show (0 : Int) < 1 by decide)]
  rw [show idx [a] 0 = some a from rfl, Option.bind_some, or0 _ (by omega)]
  unfold F_base64_groups_1_p1
  rw [bif_df (show ¬ (1 : Int) < 1 by decide), shl8 _ (by omega)]
  unfold F_base64_groups_1_p2
  rw [bif_df (show ¬ (2 : Int) < 1 by decide), shl8 _ (by omega), p3_1 _ _ _ (by omega) _ (by simp)]
  rw [show 256 * (256 * a.toNat) = a.toNat * 65536 by omega]
theorem b0_2 (fu : Nat) (r0 : List UInt8 → Int → List UInt8 → Option (List UInt8 × Int × List UInt8)) (a b : UInt8) (m3 : Int) (m16 : List UInt8) :
    F_base64_groups_1_b0 fu r0 [a, b] m3 m16 = put4 r0 2 (c0 (a.toNat * 65536 + b.toNat * 256)) (c1 (a.toNat * 65536 + b.toNat * 256)) (c2 (a.toNat * 65536 + b.toNat * 256)) 61 [a, b] m3 m16 := by
  have ha := a.toNat_lt
  have hb := b.toNat_lt
  unfold F_base64_groups_1_b0
  have hm : (if (List.length [a, b] : Int) < 3 then (List.length [a, b] : Int) else 3) = 2 := rfl
  rw [hm, bif_dt (show (0 : Int) < (List.length [a, b] : Int) by simp), bif_dt (show (0 : Int) < 2 by decide)]
  rw [show idx [a, b] 0 = some a from rfl, Option.bind_some, or0 _ (by omega)]
  unfold F_base64_groups_1_p1
  rw [bif_dt (show (1 : Int) < 2 by decide), show idx [a, b] 1 = some b from rfl, Option.bind_some, or8 _ _ (by omega) (by omega)]
  unfold F_base64_groups_1_p2
  rw [bif_df (show ¬ (2 : Int) < 2 by decide), shl8 _ (by omega), p3_2 _ _ _ (by omega) _ (by simp)]
  rw [show 256 * (256 * a.toNat + b.toNat) = a.toNat * 65536 + b.toNat * 256 by omega]
theorem b0_3 (fu : Nat) (r0 : List UInt8 → Int → List UInt8 → Option (List UInt8 × Int × List UInt8)) (a b c : UInt8) (r : List UInt8) (m3 : Int) (m16 : List UInt8) :
    F_base64_groups_1_b0 fu r0 (a :: b :: c :: r) m3 m16 = put4 r0 3 (c0 (a.toNat * 65536 + b.toNat * 256 + c.toNat)) (c1 (a.toNat * 65536 + b.toNat * 256 + c.toNat)) (c2 (a.toNat * 65536 + b.toNat * 256 + c.toNat)) (c3 (a.toNat * 65536 + b.toNat * 256 + c.toNat)) (a :: b :: c :: r) m3 m16 := by
  have ha := a.toNat_lt
  have hb := b.toNat_lt
  have hc := c.toNat_lt
  unfold F_base64_groups_1_b0
  have hl : ((a :: b :: c :: r).length : Int) = (r.length : Int) + 3 := by simp; omega
  have hm : (if ((a :: b :: c :: r).length : Int) < 3 then ((a :: b :: c :: r).length : Int) else 3) = 3 := by rw [if_neg (by omega)]
  rw [hm, bif_dt (show (0 : Int) < ((a :: b :: c :: r).length : Int) by omega), bif_dt (show (0 : Int) < 3 by decide)]
  rw [show idx (a :: b :: c :: r) 0 = some a from rfl, Option.bind_some, or0 _ (by omega)]
  unfold F_base64_groups_1_p1
  rw [bif_dt (show (1 : Int) < 3 by decide), show idx (a :: b :: c :: r) 1 = some b from rfl, Option.bind_some, or8 _ _ (by omega) (by omega)]
  unfold F_base64_groups_1_p2
  rw [bif_dt (show (2 : Int) < 3 by decide), show idx (a :: b :: c :: r) 2 = some c from rfl, Option.bind_some, or8 _ _ (by omega) (by omega), p3_3 _ _ _ (by omega) _ (by simp)]
  rw [show 256 * (256 * a.toNat + b.toNat) + c.toNat = a.toNat * 65536 + b.toNat * 256 + c.toNat by omega]
end Go.Sym
/- base64.Encode: lines. -/
namespace Go.Sym

/-- characters in lines of 76 -/
def ln76 : Nat → List UInt8 → List UInt8
  | 0, _ => []
  | n + 1, s => if 76 < s.length then s.take 76 ++ [13, 10] ++ ln76 n (s.drop 76) else if s = [] then [] else s ++ [13, 10]
theorem ln76_more : ∀ (n m : Nat) (s : List UInt8), s.length < n → s.length < m → ln76 n s = ln76 m s
  | 0, _, _, h, _ => absurd h (by omega)
  | _, 0, _, _, h => absurd h (by omega)
  | n + 1, m + 1, s, h, k => by
    unfold ln76
    by_cases c : 76 < s.length
    · rw [if_pos c, if_pos c, ln76_more n m (s.drop 76) (by simp; omega) (by simp; omega)]
    · rw [if_neg c, if_neg c]
def lines76 (s : List UInt8) : List UInt8 := ln76 (s.length + 1) s
theorem lines76_eq (s : List UInt8) : lines76 s = if 76 < s.length then s.take 76 ++ [13, 10] ++ lines76 (s.drop 76) else if s = [] then [] else s ++ [13, 10] := by
  unfold lines76
  rw [ln76]
  by_cases c : 76 < s.length
  · rw [if_pos c, if_pos c, ln76_more s.length ((s.drop 76).length + 1) (s.drop 76) (by simp; omega) (by omega)]
  · rw [if_neg c, if_neg c]
/-- what comes behind a line of col characters -/
def rest76 (col : Nat) (s : List UInt8) : List UInt8 :=
  if 76 < col + s.length then s.take (76 - col) ++ [13, 10] ++ lines76 (s.drop (76 - col)) else if col = 0 ∧ s = [] then [] else s ++ [13, 10]
theorem rest76_0 (s : List UInt8) : rest76 0 s = lines76 s := by
  unfold rest76
  conv => rhs; rw [lines76_eq]
  simp
theorem rest76_full (s : List UInt8) (h : s ≠ []) : rest76 76 s = [13, 10] ++ rest76 0 s := by
  rw [rest76_0]
  unfold rest76
  have : 0 < s.length := List.length_pos_iff.2 h
  rw [if_pos (by omega)]
  simp
theorem rest76_four (col : Nat) (p0 p1 p2 p3 : UInt8) (s : List UInt8) (h : col + 4 ≤ 76) : rest76 col (p0 :: p1 :: p2 :: p3 :: s) = [p0, p1, p2, p3] ++ rest76 (col + 4) s := by
  unfold rest76
  simp only [List.length_cons]
  by_cases c : 76 < col + 4 + s.length
  · rw [if_pos (by omega), if_pos (by omega)]
    obtain ⟨k, hk⟩ : ∃ k, 76 - col = k + 4 := ⟨76 - col - 4, by omega⟩
    have hk2 : 76 - (col + 4) = k := by omega
    rw [hk, hk2]
    simp [List.take_succ_cons, List.drop_succ_cons]
  · rw [if_neg (show ¬ 76 < col + (s.length + 1 + 1 + 1 + 1) by omega), if_neg c, if_neg (show ¬ (col = 0 ∧ p0 :: p1 :: p2 :: p3 :: s = []) by simp), if_neg (show ¬ (col + 4 = 0 ∧ s = []) by omega)]
    simp
theorem e64_len : ∀ (b : List UInt8), (e64 b).length = 4 * ((b.length + 2) / 3)
  | [] => rfl
  | [_] => by simp [e64]
  | [_, _] => by simp [e64]
  | a :: b :: c :: r => by
    simp only [e64, List.length_cons, e64_len r]; omega
theorem enc_r0 (p0 p1 p2 p3 : UInt8) (col : Nat) (out : List UInt8) (hc : col ≤ 76) (ho : out.length + 6 ≤ rowMax) :
    F_base64_Encode_r0 p0 p1 p2 p3 (col : Int) out = some (if col = 76 then ((4 : Int), out ++ [13, 10] ++ [p0, p1, p2, p3]) else (((col + 4 : Nat) : Int), out ++ [p0, p1, p2, p3])) := by
  unfold F_base64_Encode_r0
  rw [bif_eq]
  by_cases c : col = 76
  · subst c
    rw [if_pos (show ((76 : Nat) : Int) = 76 from rfl), if_pos rfl, bif_dt (by simp; omega), bif_dt (by simp; omega)]
  · rw [if_neg (by omega), if_neg c, bif_dt (by simp; omega), w64_eq (by omega) (by omega)]
    simp
/-- the groups, put out -/
theorem groups_go (fu n : Nat) : ∀ (b : List UInt8) (col : Nat) (out : List UInt8), b.length < n → col ≤ 76 → col % 4 = 0 → out.length + 2 * (e64 b).length + 8 ≤ rowMax →
    ∃ col' : Nat, ∃ out', F_base64_groups_1_p0 fu n b (col : Int) out = some ([], ((col' : Int), out')) ∧ out'.length + 2 ≤ rowMax ∧ out' ++ (if 0 < col' then [13, 10] else []) = out ++ rest76 col (e64 b) := by
  induction n with
  | zero => intro b col out h; exact absurd h (by omega)
  | succ n ih =>
    intro b col out h hc hm ho
    have four : ∀ (k : Nat) (p0 p1 p2 p3 : UInt8) (r : List UInt8), b.drop k = r → e64 b = p0 :: p1 :: p2 :: p3 :: e64 r → r.length < n → F_base64_groups_1_p0 fu (n + 1) b (col : Int) out = put4 (F_base64_groups_1_p0 fu n) k p0 p1 p2 p3 b (col : Int) out →
        ∃ col' : Nat, ∃ out', F_base64_groups_1_p0 fu (n + 1) b (col : Int) out = some ([], ((col' : Int), out')) ∧ out'.length + 2 ≤ rowMax ∧ out' ++ (if 0 < col' then [13, 10] else []) = out ++ rest76 col (e64 b) := by
      intro k p0 p1 p2 p3 r hd he hr hp
      rw [he, List.length_cons, List.length_cons, List.length_cons, List.length_cons] at ho
      rw [hp, he]
      unfold put4
      rw [enc_r0 _ _ _ _ _ _ hc (by omega), Option.bind_some, hd]
      by_cases c : col = 76
      · rw [if_pos c]
        obtain ⟨col', out', h1, h2, h3⟩ := ih r 4 (out ++ [13, 10] ++ [p0, p1, p2, p3]) hr (by omega) (by omega) (by simp; omega)
        refine ⟨col', out', h1, h2, ?_⟩
        rw [h3, c, rest76_full _ (by simp), rest76_four _ _ _ _ _ _ (by omega)]
        simp
      · rw [if_neg c]
        obtain ⟨col', out', h1, h2, h3⟩ := ih r (col + 4) (out ++ [p0, p1, p2, p3]) hr (by omega) (by omega) (by simp; omega)
        refine ⟨col', out', h1, h2, ?_⟩
        rw [h3, rest76_four _ _ _ _ _ _ (by omega)]
        simp
    match b, four with
    | [], _ =>
      refine ⟨col, out, ?_, by omega, ?_⟩
      · rw [F_base64_groups_1_p0, F_base64_groups_1_b0, bif_df (by simp)]
      · unfold rest76
        simp only [e64, List.length_nil]
        rw [if_neg (show ¬ 76 < col + 0 by omega)]
        by_cases c : col = 0
        · subst c; simp
        · rw [if_pos (show 0 < col by omega)]; simp [c]
    | [a], four => exact four 1 (c0 (a.toNat * 65536)) (c1 (a.toNat * 65536)) 61 61 [] rfl (by simp only [e64]) (by simp at h; simp; omega) (by rw [F_base64_groups_1_p0]; exact b0_1 fu _ a _ _)
    | [a, b], four => exact four 2 (c0 (a.toNat * 65536 + b.toNat * 256)) (c1 (a.toNat * 65536 + b.toNat * 256)) (c2 (a.toNat * 65536 + b.toNat * 256)) 61 [] rfl (by simp only [e64]) (by simp at h; simp; omega) (by rw [F_base64_groups_1_p0]; exact b0_2 fu _ a b _ _)
    | a :: b :: c :: r, four => exact four 3 (c0 (a.toNat * 65536 + b.toNat * 256 + c.toNat)) (c1 (a.toNat * 65536 + b.toNat * 256 + c.toNat)) (c2 (a.toNat * 65536 + b.toNat * 256 + c.toNat)) (c3 (a.toNat * 65536 + b.toNat * 256 + c.toNat)) r rfl (by simp only [e64]) (by simp at h; omega) (by rw [F_base64_groups_1_p0]; exact b0_3 fu _ a b c r _ _)
theorem enc64_eq (fu : Nat) (b : List UInt8) (hf : b.length < fu) (hb : b.length ≤ 12000) : F_base64_Encode fu b = some ((0, 0), lines76 (e64 b)) := by
  unfold F_base64_Encode F_base64_groups
  rw [bif_df (by omega), Option.bind_some]
  unfold F_base64_groups_1
  obtain ⟨col', out', h1, h2, h3⟩ := groups_go fu fu b 0 [] hf (by omega) rfl (by rw [e64_len]; simp only [rowMax, List.length_nil]; omega)
  rw [show F_base64_groups_1_p0 fu fu b (0 : Int) [] = some ([], ((col' : Int), out')) from h1, Option.bind_some]
  rw [rest76_0, List.nil_append] at h3
  simp only [F_basic_None, Option.bind_some]
  rw [← h3, bif_d]
  by_cases c : 0 < col'
  · rw [if_pos (show (0 : Int) < (col' : Int) by omega), if_pos c, bif_dt (by simp; omega)]
  · rw [if_neg (show ¬ (0 : Int) < (col' : Int) by omega), if_neg c]; simp
theorem enc64_big (fu : Nat) (b : List UInt8) (hb : 12000 < b.length) : F_base64_Encode fu b = some ((1, -1), []) := by
  unfold F_base64_Encode F_basic_Fault
  rw [bif_dt (by omega)]; rfl
theorem lines_go (fu : Nat) (n : Nat) : ∀ (s out : List UInt8), s.length < n → out.length + 2 * s.length + 4 ≤ rowMax → F_R1_Lines64_p0 fu n s out = some (out ++ lines76 s) := by
  induction n with
  | zero => intro s out h; exact absurd h (by omega)
  | succ n ih =>
    intro s out h ho
    simp only [F_R1_Lines64_p0, F_R1_Lines64_b0, show (76 : Int).toNat = 76 from rfl]
    rw [lines76_eq, bif_d]
    by_cases c : 76 < s.length
    · rw [if_pos (show (76 : Int) < (s.length : Int) by omega), if_pos c, bif_dt (by omega), bif_dt (by simp; omega), bif_dt (by simp; omega), bif_dt (by omega)]
      rw [ih _ _ (by simp; omega) (by simp; omega)]
      simp
    · rw [if_neg (show ¬ (76 : Int) < (s.length : Int) by omega), if_neg c]
      cases s with
      | nil => simp
      | cons x s =>
        simp only [List.length_cons] at ho
        rw [bif_t (by simp), bif_dt (by simp; omega), bif_dt (by simp; omega), if_neg (by simp)]
        simp
end Go.Sym
/- The document's base64: bits. -/
namespace Go.Sym

def nbits (c : UInt8) : List Nat := [c.toNat / 128 % 2, c.toNat / 64 % 2, c.toNat / 32 % 2, c.toNat / 16 % 2, c.toNat / 8 % 2, c.toNat / 4 % 2, c.toNat / 2 % 2, c.toNat % 2]
def bits (b : List UInt8) : List Nat := b.flatMap nbits
abbrev cst (l : List Nat) : List Int := l.map Int.ofNat
theorem bit_eq (x k : Nat) (p : Int) (hp : p = (k : Int)) (hk : k ≤ 30) : Int.tmod (Int.fdiv (x : Int) (2 ^ min p.toNat 64)) 2 = ((x / 2 ^ k % 2 : Nat) : Int) := by
  subst hp
  have e1 : min (k : Int).toNat 64 = k := by omega
  have e2 : Int.fdiv (x : Int) (2 ^ k) = ((x / 2 ^ k : Nat) : Int) := by
    rw [Int.fdiv_eq_ediv_of_nonneg _ (by exact Int.le_of_lt (Int.pow_pos (by decide)))]
    simp
  rw [e1, e2, Int.tmod_eq_emod_of_nonneg (Int.natCast_nonneg _)]
  generalize x / 2 ^ k = y
  omega
theorem bits_go (fu n : Nat) : ∀ (pre suf : List UInt8) (out : List Int), suf.length < n → pre.length + suf.length < 9223372036854775807 → out.length + 8 * suf.length ≤ rowMax →
    F_R1_Bits_p0 fu n (pre ++ suf) (pre.length : Int) out = some (out ++ cst (bits suf)) := by
  induction n with
  | zero => intro pre suf out h; exact absurd h (by omega)
  | succ n ih =>
    intro pre suf out h hb ho
    cases suf with
    | nil =>
      rw [F_R1_Bits_p0, F_R1_Bits_b0, bif_df (by simp)]; simp [bits]
    | cons c suf =>
      simp only [List.length_cons] at h hb ho
      rw [F_R1_Bits_p0, F_R1_Bits_b0, bif_dt (by simp; omega)]
      simp only [idx_mid, Option.bind_some, bit_eq c.toNat 7 7 rfl (by omega), bit_eq c.toNat 6 6 rfl (by omega), bit_eq c.toNat 5 5 rfl (by omega), bit_eq c.toNat 4 4 rfl (by omega), bit_eq c.toNat 3 3 rfl (by omega), bit_eq c.toNat 2 2 rfl (by omega), bit_eq c.toNat 1 1 rfl (by omega), bit_eq c.toNat 0 0 rfl (by omega)]
      rw [bif_dt (by simp; omega), bif_dt (by simp; omega), bif_dt (by simp; omega), bif_dt (by simp; omega), bif_dt (by simp; omega), bif_dt (by simp; omega), bif_dt (by simp; omega), bif_dt (by simp; omega), nx_nat _ (by omega)]
      have := ih (pre ++ [c]) suf (out ++ cst (nbits c)) (by omega) (by simp; omega) (by simp [nbits]; omega)
      simp only [List.length_append, List.length_cons, List.length_nil, Nat.zero_add, List.append_assoc, List.singleton_append] at this
      have e : ((((((((out ++ [((c.toNat / 2 ^ 7 % 2 : Nat) : Int)]) ++ [((c.toNat / 2 ^ 6 % 2 : Nat) : Int)]) ++ [((c.toNat / 2 ^ 5 % 2 : Nat) : Int)]) ++ [((c.toNat / 2 ^ 4 % 2 : Nat) : Int)]) ++ [((c.toNat / 2 ^ 3 % 2 : Nat) : Int)]) ++ [((c.toNat / 2 ^ 2 % 2 : Nat) : Int)]) ++ [((c.toNat / 2 ^ 1 % 2 : Nat) : Int)]) ++ [((c.toNat / 2 ^ 0 % 2 : Nat) : Int)]) = out ++ cst (nbits c) := by
        simp [nbits]
      rw [e, this]
      simp [bits]
theorem rbits_eq (fu : Nat) (b : List UInt8) (h : b.length < fu) (hb : b.length ≤ 100000000) : F_R1_Bits fu b = some (cst (bits b)) := by
  have := bits_go fu fu [] b [] h (by simp; omega) (by simp [rowMax]; omega)
  exact this
def sumN (a : Nat) : List Nat → Nat
  | [] => a
  | x :: l => sumN (2 * a + x) l
theorem sum_go (fu n : Nat) : ∀ (pre suf : List Nat) (a : Nat), suf.length < n → pre.length + suf.length < 9223372036854775807 → (∀ x ∈ suf, x ≤ 1) → (a + 1) * 2 ^ suf.length ≤ 1099511627776 →
    F_R1_sum_p0 fu n (cst (pre ++ suf)) (a : Int) (pre.length : Int) = some ((sumN a suf : Nat) : Int) := by
  induction n with
  | zero => intro pre suf a h; exact absurd h (by omega)
  | succ n ih =>
    intro pre suf a h hb h1 ho
    cases suf with
    | nil => rw [F_R1_sum_p0, F_R1_sum_b0, bif_df (by simp)]; rfl
    | cons c suf =>
      simp only [List.length_cons] at h hb ho
      have hc := h1 c List.mem_cons_self
      have hidx : idx (cst (pre ++ c :: suf)) (pre.length : Int) = some (c : Int) := by
        have := idx_mid (cst pre) (c : Int) (cst suf)
        simpa [cst] using this
      have hp : 2 ^ (suf.length + 1) = 2 * 2 ^ suf.length := by rw [Nat.pow_succ]; omega
      have hpos : 1 ≤ 2 ^ suf.length := Nat.one_le_two_pow
      have hle : (2 * a + c + 1) * 2 ^ suf.length ≤ 1099511627776 := by
        refine Nat.le_trans ?_ ho
        rw [hp, ← Nat.mul_assoc]
        exact Nat.mul_le_mul_right _ (by omega)
      have ha : a + 1 ≤ 1099511627776 := by
        refine Nat.le_trans ?_ ho
        exact Nat.le_mul_of_pos_right _ (by rw [hp]; omega)
      rw [F_R1_sum_p0, F_R1_sum_b0, bif_dt (by simp; omega), hidx, Option.bind_some, nx_nat _ (by omega)]
      have e : w64 (w64 (2 * (a : Int)) + (c : Int)) = ((2 * a + c : Nat) : Int) := by
        rw [w64_eq (x := 2 * (a : Int)) (by omega) (by omega), w64_eq (by omega) (by omega)]; omega
      rw [e]
      have := ih (pre ++ [c]) suf (2 * a + c) (by omega) (by simp; omega) (fun x hx => h1 x (List.mem_cons_of_mem _ hx)) hle
      simp only [List.length_append, List.length_cons, List.length_nil, Nat.zero_add, List.append_assoc, List.singleton_append] at this
      rw [this]; rfl
theorem sum_eq (fu : Nat) (l : List Nat) (h : 8 < fu) (hl : l.length ≤ 8) (h1 : ∀ x ∈ l, x ≤ 1) : F_R1_sum fu (cst l) = some ((sumN 0 l : Nat) : Int) := by
  have := sum_go fu fu [] l 0 (by omega) (by simp; omega) h1 (by
    have : 2 ^ l.length ≤ 2 ^ 8 := Nat.pow_le_pow_right (by omega) hl
    omega)
  exact this
theorem sumN_lt : ∀ (l : List Nat) (a : Nat), (∀ x ∈ l, x ≤ 1) → sumN a l + 1 ≤ (a + 1) * 2 ^ l.length
  | [], a, _ => by simp [sumN]
  | x :: l, a, h => by
    have := sumN_lt l (2 * a + x) (fun y hy => h y (List.mem_cons_of_mem _ hy))
    have hx := h x List.mem_cons_self
    unfold sumN
    refine Nat.le_trans this ?_
    rw [List.length_cons, Nat.pow_succ, Nat.mul_comm (2 ^ l.length) 2, ← Nat.mul_assoc]
    exact Nat.mul_le_mul_right _ (by omega)
/-- six bits at a time -/
def ch6 : List Nat → List UInt8
  | a :: b :: c :: d :: e :: f :: r => al (sumN 0 [a, b, c, d, e, f]) :: ch6 r
  | _ => []
theorem take_alpha (k : Nat) (h : k < 64) : List.take ((w64 ((k : Int) + 1)).toNat - (k : Int).toNat) (List.drop (k : Int).toNat alpha) = [al k] := by
  have h' : k < alpha.length := h
  rw [nx_nat _ (by omega)]
  rw [show ((k + 1 : Nat) : Int).toNat - (k : Int).toNat = 1 by omega, show (k : Int).toNat = k by omega]
  have e : al k = alpha[k] := by unfold al; simp [h']
  rw [List.drop_eq_getElem_cons h', e]; rfl
theorem chars_go (fu n : Nat) (hfu : 8 < fu) : ∀ (pre suf : List Nat) (s : List UInt8), suf.length < n → pre.length + suf.length < 1000000000 → (∀ x ∈ suf, x ≤ 1) → suf.length % 6 = 0 → s.length + suf.length ≤ 2000000000 →
    F_R1_Chars64_p1 fu n (cst (pre ++ suf)) s (pre.length : Int) = F_R1_Chars64_p2 fu fu (s ++ ch6 suf) := by
  induction n with
  | zero => intro pre suf s h; exact absurd h (by omega)
  | succ n ih =>
    intro pre suf s h hb h1 h6 ho
    match suf with
    | [] => rw [F_R1_Chars64_p1, F_R1_Chars64_b1, bif_df (by simp)]; simp [ch6]
    | [_] => simp at h6
    | [_, _] => simp at h6
    | [_, _, _] => simp at h6
    | [_, _, _, _] => simp at h6
    | [_, _, _, _, _] => simp at h6
    | a :: b :: c :: d :: e :: f :: r =>
      have hs : ∀ x ∈ [a, b, c, d, e, f], x ≤ 1 := fun x hx => h1 x (by simp at hx ⊢; omega)
      have hlt := sumN_lt [a, b, c, d, e, f] 0 hs
      simp only [List.length_cons, List.length_nil] at hlt
      have hk : sumN 0 [a, b, c, d, e, f] < 64 := by omega
      simp only [List.length_cons] at h hb ho h6
      rw [F_R1_Chars64_p1, F_R1_Chars64_b1, bif_dt (by simp; omega)]
      have e6 : w64 ((pre.length : Int) + 6) = ((pre.length + 6 : Nat) : Int) := by rw [w64_eq (by omega) (by omega)]; omega
      rw [e6, bif_dt (by simp; omega)]
      have et : List.take (((pre.length + 6 : Nat) : Int).toNat - (pre.length : Int).toNat) (List.drop (pre.length : Int).toNat (cst (pre ++ a :: b :: c :: d :: e :: f :: r))) = cst [a, b, c, d, e, f] := by
        rw [show ((pre.length + 6 : Nat) : Int).toNat - (pre.length : Int).toNat = 6 by omega, show (pre.length : Int).toNat = pre.length by omega]
        simp [cst]
      rw [et, sum_eq fu _ hfu (by simp) hs, Option.bind_some]
      rw [show ([65, 66, 67, 68, 69, 70, 71, 72, 73, 74, 75, 76, 77, 78, 79, 80, 81, 82, 83, 84, 85, 86, 87, 88, 89, 90, 97, 98, 99, 100, 101, 102, 103, 104, 105, 106, 107, 108, 109, 110, 111, 112, 113, 114, 115, 116, 117, 118, 119, 120, 121, 122, 48, 49, 50, 51, 52, 53, 54, 55, 56, 57, 43, 47] : List UInt8) = alpha from rfl]
      rw [take_alpha _ hk, bif_dt (by rw [nx_nat _ (by omega), show (alpha.length : Int) = 64 from rfl]; omega), bif_dt (by simp only [strMax, List.length_cons, List.length_nil]; omega)]
      have := ih (pre ++ [a, b, c, d, e, f]) r (s ++ [al (sumN 0 [a, b, c, d, e, f])]) (by omega) (by simp; omega) (fun x hx => h1 x (by simp [hx])) (by omega) (by simp; omega)
      simp only [List.length_append, List.length_cons, List.length_nil, Nat.zero_add, List.append_assoc, List.cons_append, List.nil_append] at this
      rw [this]
      simp [ch6]
/-- equals signs up to a multiple of four -/
def pad4 (s : List UInt8) : List UInt8 := s ++ List.replicate ((4 - s.length % 4) % 4) 61
theorem pad4_go (fu : Nat) (n : Nat) : ∀ (s : List UInt8), (4 - s.length % 4) % 4 < n → s.length ≤ 2000000000 → F_R1_Chars64_p2 fu n s = some (pad4 s) := by
  induction n with
  | zero => intro s h; exact absurd h (by omega)
  | succ n ih =>
    intro s h hs
    rw [F_R1_Chars64_p2, F_R1_Chars64_b2, bif_ne, Int.tmod_eq_emod_of_nonneg (Int.natCast_nonneg _)]
    by_cases c : s.length % 4 = 0
    · rw [if_neg (by omega)]; unfold pad4; rw [c]; simp
    · rw [if_pos (by omega), bif_dt (by simp [strMax]; omega)]
      by_cases h3 : s.length % 4 = 3
      · rw [ih _ (by simp; omega) (by simp; omega)]
        unfold pad4
        have : (s ++ [61]).length % 4 = 0 := by simp; omega
        rw [this, h3]; simp
      · rw [ih _ (by simp; omega) (by simp; omega)]
        unfold pad4
        have : (4 - s.length % 4) % 4 = (4 - (s ++ [61]).length % 4) % 4 + 1 := by simp; omega
        rw [this, List.replicate_succ]; simp
/-- zeros up to a multiple of six -/
def pad6 (s : List Nat) : List Nat := s ++ List.replicate ((6 - s.length % 6) % 6) 0
theorem pad6_go (fu n : Nat) (hfu : 8 < fu) : ∀ (s : List Nat), (6 - s.length % 6) % 6 < n → s.length + (6 - s.length % 6) % 6 < fu → s.length + (6 - s.length % 6) % 6 ≤ 1000000 → (∀ x ∈ s, x ≤ 1) → F_R1_Chars64_p0 fu n (cst s) = some (pad4 (ch6 (pad6 s))) := by
  induction n with
  | zero => intro s h; exact absurd h (by omega)
  | succ n ih =>
    intro s h hs hm h1
    rw [F_R1_Chars64_p0, F_R1_Chars64_b0, bif_ne, Int.tmod_eq_emod_of_nonneg (Int.natCast_nonneg _)]
    have hl : (cst s).length = s.length := by simp
    by_cases c : s.length % 6 = 0
    · rw [if_neg (by rw [hl]; omega)]
      have e : pad6 s = s := by unfold pad6; rw [c]; simp
      rw [e]
      have := chars_go fu fu hfu [] s [] (by omega) (by simp; omega) h1 c (by simp; omega)
      rw [List.nil_append, List.nil_append] at this
      rw [show F_R1_Chars64_p1 fu fu (cst s) ([] : List UInt8) (0 : Int) = F_R1_Chars64_p2 fu fu (ch6 s) from this]
      have hle : ∀ (n : Nat) (l : List Nat), l.length ≤ n → (ch6 l).length ≤ l.length := by
        intro n
        induction n with
        | zero => intro l hl; have : l = [] := List.eq_nil_of_length_eq_zero (by omega); subst this; simp [ch6]
        | succ n ih2 =>
          intro l hl
          match l with
          | [] => simp [ch6]
          | [_] => simp [ch6]
          | [_, _] => simp [ch6]
          | [_, _, _] => simp [ch6]
          | [_, _, _, _] => simp [ch6]
          | [_, _, _, _, _] => simp [ch6]
          | a :: b :: c :: d :: e :: f :: r =>
            simp only [List.length_cons] at hl
            have := ih2 r (by omega)
            simp only [ch6, List.length_cons]; omega
      have := hle _ s (Nat.le_refl _)
      exact pad4_go fu fu (ch6 s) (by omega) (by omega)
    · rw [if_pos (by rw [hl]; omega), bif_dt (by simp [rowMax]; omega)]
      have e : cst s ++ [(0 : Int)] = cst (s ++ [0]) := by simp
      rw [e]
      by_cases h5 : s.length % 6 = 5
      · have e2 : pad6 (s ++ [0]) = pad6 s := by
          unfold pad6
          have : (s ++ [0]).length % 6 = 0 := by simp; omega
          rw [this, h5]; simp
        have hs2 : (s ++ [0]).length % 6 = 0 := by simp; omega
        rw [← e2]
        rw [ih (s ++ [0]) (by rw [hs2]; omega) (by rw [hs2]; simp; omega) (by rw [hs2]; simp; omega) (fun x hx => by simp at hx; rcases hx with hx | hx; exact h1 x hx; omega)]
      · have e2 : pad6 (s ++ [0]) = pad6 s := by
          unfold pad6
          have : (6 - s.length % 6) % 6 = (6 - (s ++ [0]).length % 6) % 6 + 1 := by simp; omega
          rw [this, List.replicate_succ]; simp
        rw [← e2]
        rw [ih (s ++ [0]) (by simp; omega) (by simp; omega) (by simp; omega) (fun x hx => by simp at hx; rcases hx with hx | hx; exact h1 x hx; omega)]
theorem pad6_app (a s : List Nat) (h : a.length % 6 = 0) : pad6 (a ++ s) = a ++ pad6 s := by
  unfold pad6
  have : (a ++ s).length % 6 = s.length % 6 := by simp; omega
  rw [this, List.append_assoc]
theorem pad4_app (p0 p1 p2 p3 : UInt8) (s : List UInt8) : pad4 (p0 :: p1 :: p2 :: p3 :: s) = p0 :: p1 :: p2 :: p3 :: pad4 s := by
  unfold pad4
  have : (p0 :: p1 :: p2 :: p3 :: s).length % 4 = s.length % 4 := by simp; omega
  rw [this]; rfl
theorem n6 (a : Nat) (h : a < 256) : 2 * (2 * (2 * (2 * (2 * (2 * 0 + a / 128 % 2) + a / 64 % 2) + a / 32 % 2) + a / 16 % 2) + a / 8 % 2) + a / 4 % 2 = a / 4 := by omega
theorem n2 (a : Nat) : 2 * (2 * 0 + a / 2 % 2) + a % 2 = a % 4 := by omega
theorem n4 (t b : Nat) (h : b < 256) : 2 * (2 * (2 * (2 * t + b / 128 % 2) + b / 64 % 2) + b / 32 % 2) + b / 16 % 2 = 16 * t + b / 16 := by omega
theorem n4' (b : Nat) : 2 * (2 * (2 * (2 * 0 + b / 8 % 2) + b / 4 % 2) + b / 2 % 2) + b % 2 = b % 16 := by omega
theorem n2' (t c : Nat) (h : c < 256) : 2 * (2 * t + c / 128 % 2) + c / 64 % 2 = 4 * t + c / 64 := by omega
theorem n6' (c : Nat) : 2 * (2 * (2 * (2 * (2 * (2 * 0 + c / 32 % 2) + c / 16 % 2) + c / 8 % 2) + c / 4 % 2) + c / 2 % 2) + c % 2 = c % 64 := by omega
theorem x0 (a b c : Nat) (h : a < 256) (hb : b < 256) (hc : c < 256) : (a * 65536 + b * 256 + c) / 262144 % 64 = a / 4 := by omega
theorem x1 (a b c : Nat) (h : a < 256) (hb : b < 256) (hc : c < 256) : (a * 65536 + b * 256 + c) / 4096 % 64 = 16 * (a % 4) + b / 16 := by omega
theorem x2 (a b c : Nat) (h : a < 256) (hb : b < 256) (hc : c < 256) : (a * 65536 + b * 256 + c) / 64 % 64 = 4 * (b % 16) + c / 64 := by omega
theorem x3 (a b c : Nat) (h : a < 256) (hb : b < 256) (hc : c < 256) : (a * 65536 + b * 256 + c) % 64 = c % 64 := by omega
theorem e64_eq : ∀ (b : List UInt8), pad4 (ch6 (pad6 (bits b))) = e64 b
  | [] => by simp [bits, pad6, ch6, pad4, e64]
  | [a] => by
    have ha : a.toNat < 256 := a.toNat_lt
    have e : pad6 (bits [a]) = nbits a ++ [0, 0, 0, 0] := by simp [bits, pad6, nbits]
    rw [e]
    simp only [nbits, List.cons_append, List.nil_append, ch6, sumN, e64]
    rw [n6 _ ha, n2]
    have k0 := x0 a.toNat 0 0 ha (by omega) (by omega)
    have k1 := x1 a.toNat 0 0 ha (by omega) (by omega)
    simp only [Nat.zero_mul, Nat.add_zero, Nat.zero_div] at k0 k1
    unfold c0 c1
    rw [k0, k1, show 2 * (2 * (2 * (2 * (a.toNat % 4) + 0) + 0) + 0) + 0 = 16 * (a.toNat % 4) by omega]
    rfl
  | [a, b] => by
    have ha : a.toNat < 256 := a.toNat_lt
    have hb : b.toNat < 256 := b.toNat_lt
    have e : pad6 (bits [a, b]) = nbits a ++ nbits b ++ [0, 0] := by simp [bits, pad6, nbits]
    rw [e]
    simp only [nbits, List.cons_append, List.nil_append, ch6, sumN, e64]
    rw [n6 _ ha, n2, n4 _ _ hb, n4']
    have k0 := x0 a.toNat b.toNat 0 ha hb (by omega)
    have k1 := x1 a.toNat b.toNat 0 ha hb (by omega)
    have k2 := x2 a.toNat b.toNat 0 ha hb (by omega)
    simp only [Nat.add_zero, Nat.zero_div] at k0 k1 k2
    unfold c0 c1 c2
    rw [k0, k1, k2, show 2 * (2 * (b.toNat % 16) + 0) + 0 = 4 * (b.toNat % 16) by omega]
    rfl
  | a :: b :: c :: r => by
    have ha : a.toNat < 256 := a.toNat_lt
    have hb : b.toNat < 256 := b.toNat_lt
    have hc : c.toNat < 256 := c.toNat_lt
    have e : bits (a :: b :: c :: r) = (nbits a ++ nbits b ++ nbits c) ++ bits r := by simp [bits]
    rw [e, pad6_app _ _ (by simp [nbits])]
    simp only [nbits, List.cons_append, List.nil_append, ch6, sumN, e64]
    rw [pad4_app, e64_eq r, n6 _ ha, n2, n4 _ _ hb, n4', n2' _ _ hc, n6']
    unfold c0 c1 c2 c3
    rw [x0 _ _ _ ha hb hc, x1 _ _ _ ha hb hc, x2 _ _ _ ha hb hc, x3 _ _ _ ha hb hc]
theorem bits_len (b : List UInt8) : (bits b).length = 8 * b.length := by
  induction b with
  | nil => rfl
  | cons c b ih => rw [show bits (c :: b) = nbits c ++ bits b from rfl, List.length_append, ih]; simp [nbits]; omega
theorem bits_one (b : List UInt8) : ∀ x ∈ bits b, x ≤ 1 := by
  intro x hx
  obtain ⟨c, _, hx⟩ := List.mem_flatMap.1 hx
  simp only [nbits, List.mem_cons, List.not_mem_nil, or_false] at hx
  omega
theorem rlines_eq (fu : Nat) (b : List UInt8) (hb : b.length ≤ 12000) (hf : 8 * b.length + 100 < fu) : F_R1_Lines64 fu b = some (lines76 (e64 b)) := by
  unfold F_R1_Lines64 F_R1_Chars64
  rw [rbits_eq fu b (by omega) (by omega), Option.bind_some]
  have hl := bits_len b
  rw [pad6_go fu fu (by omega) (bits b) (by omega) (by omega) (by omega) (bits_one b), Option.bind_some, e64_eq]
  have := e64_len b
  have h := lines_go fu fu (e64 b) [] (by omega) (by simp [rowMax]; omega)
  simpa using h
end Go.Sym
/- quoted.Encode in plain words. -/
namespace Go.Sym

theorem byte_all (P : UInt8 → Prop) (h : ∀ n : _root_.Fin 256, P (UInt8.ofNat n.val)) (c : UInt8) : P c := by
  have := h ⟨c.toNat, c.toNat_lt⟩
  simpa using this
/-- the next line begins here -/
def isL : List UInt8 → Bool
  | a :: b :: _ => a == 13 && b == 10
  | _ => false
theorem line_eq (s : List UInt8) : F_quoted_line s = some (isL s) := by
  unfold F_quoted_line
  match s with
  | [] => rfl
  | [_] => rfl
  | a :: b :: r =>
    rw [bif_dt (by simp; omega), show idx (a :: b :: r) 0 = some a from rfl, show idx (a :: b :: r) 1 = some b from rfl]
    simp only [Option.bind_some, isL]
    cases a == 13 <;> rfl
/-- how a byte is written -/
def sgn (c : UInt8) (e : Bool) : List UInt8 := (F_quoted_sign_p0 c e).getD []
set_option maxRecDepth 100000 in
theorem sgn_all : ∀ n : _root_.Fin 256, ∀ e : Bool, F_quoted_sign_p0 (UInt8.ofNat n.val) e = some (sgn (UInt8.ofNat n.val) e) ∧ ((sgn (UInt8.ofNat n.val) e).length = 1 ∨ (sgn (UInt8.ofNat n.val) e).length = 3) := by decide +kernel
theorem sgn_eq (c : UInt8) (e : Bool) : F_quoted_sign_p0 c e = some (sgn c e) := (byte_all (fun c => ∀ e, F_quoted_sign_p0 c e = some (sgn c e) ∧ ((sgn c e).length = 1 ∨ (sgn c e).length = 3)) sgn_all c e).1
theorem sgn_len (c : UInt8) (e : Bool) : (sgn c e).length = 1 ∨ (sgn c e).length = 3 := (byte_all (fun c => ∀ e, F_quoted_sign_p0 c e = some (sgn c e) ∧ ((sgn c e).length = 1 ∨ (sgn c e).length = 3)) sgn_all c e).2
/-- a line ends here -/
def endB (r : List UInt8) : Bool := r.isEmpty || isL r
theorem sign_eq (c : UInt8) (r : List UInt8) : F_quoted_sign c r = some (sgn c (endB r)) := by
  unfold F_quoted_sign
  cases r with
  | nil => exact sgn_eq c true
  | cons x r =>
    rw [bif_f (by simp; omega), line_eq, Option.bind_some, sgn_eq]; rfl
/-- the encoding, in a line of col bytes -/
def qe (col : Nat) : List UInt8 → List UInt8
  | [] => []
  | [c] => (if 76 < col + (sgn c true).length then [61, 13, 10] else []) ++ sgn c true
  | c :: d :: r => if c = 13 ∧ d = 10 then 13 :: 10 :: qe 0 r else
      if (if isL (d :: r) then 76 else 75) < col + (sgn c (isL (d :: r))).length then [61, 13, 10] ++ sgn c (isL (d :: r)) ++ qe (sgn c (isL (d :: r))).length (d :: r)
      else sgn c (isL (d :: r)) ++ qe (col + (sgn c (isL (d :: r))).length) (d :: r)
theorem enc_p3 (fu : Nat) (r0 : List UInt8 → Int → Int → (Int × Int) → List UInt8 → Option ((Int × Int) × List UInt8)) (s0 : List UInt8) (col i : Nat) (m16 : Int × Int) (out u : List UInt8) (hc : col ≤ 1000) (hi : i < 1000000000) (ho : out.length + u.length ≤ rowMax) (hu : u.length ≤ 10) :
    F_quoted_Encode_p3 fu r0 s0 (col : Int) (i : Int) m16 out u = r0 s0 ((col + u.length : Nat) : Int) ((i + 1 : Nat) : Int) m16 (out ++ u) := by
  unfold F_quoted_Encode_p3
  rw [bif_dt (by simp; omega), nx_nat _ (by omega)]
  have : w64 ((col : Int) + (u.length : Int)) = ((col + u.length : Nat) : Int) := by rw [w64_eq (by omega) (by omega)]; omega
  rw [this]
theorem enc_p2 (fu : Nat) (r0 : List UInt8 → Int → Int → (Int × Int) → List UInt8 → Option ((Int × Int) × List UInt8)) (s0 : List UInt8) (col i most : Nat) (m16 : Int × Int) (out u : List UInt8) (hc : col ≤ 900) (hi : i < 1000000000) (ho : out.length + u.length + 3 ≤ rowMax) (hu : u.length ≤ 10) :
    F_quoted_Encode_p2 fu r0 s0 (col : Int) (i : Int) (most : Int) m16 out u =
      if most < col + u.length then r0 s0 (u.length : Int) ((i + 1 : Nat) : Int) m16 (out ++ [61, 13, 10] ++ u) else r0 s0 ((col + u.length : Nat) : Int) ((i + 1 : Nat) : Int) m16 (out ++ u) := by
  unfold F_quoted_Encode_p2
  have : w64 ((col : Int) + (u.length : Int)) = ((col + u.length : Nat) : Int) := by rw [w64_eq (by omega) (by omega)]; omega
  rw [this, bif_d]
  by_cases c : most < col + u.length
  · rw [if_pos (show (most : Int) < ((col + u.length : Nat) : Int) by omega), if_pos c, bif_dt (by simp; omega)]
    have := enc_p3 fu r0 s0 0 i m16 (out ++ [61, 13, 10]) u (by omega) hi (by simp; omega) hu
    rw [Nat.zero_add] at this
    exact this
  · rw [if_neg (show ¬ (most : Int) < ((col + u.length : Nat) : Int) by omega), if_neg c]
    exact enc_p3 fu r0 s0 col i m16 out u (by omega) hi (by omega) hu
theorem drop_mid {α : Type} (pre : List α) (suf : List α) : List.drop ((pre.length : Nat) : Int).toNat (pre ++ suf) = suf := by simp
theorem drop_mid1 {α : Type} (pre : List α) (c : α) (suf : List α) : List.drop ((pre.length + 1 : Nat) : Int).toNat (pre ++ c :: suf) = suf := by
  rw [show ((pre.length + 1 : Nat) : Int).toNat = (pre ++ [c]).length by simp, show pre ++ c :: suf = (pre ++ [c]) ++ suf by simp]
  simp
theorem qenc_go (fu n : Nat) (m16 : Int × Int) : ∀ (pre suf : List UInt8) (col : Nat) (out : List UInt8), suf.length < n → pre.length + suf.length < 100000000 → col ≤ 80 → out.length + 8 * suf.length ≤ 1000000000 →
    F_quoted_Encode_p0 fu n (pre ++ suf) (col : Int) (pre.length : Int) m16 out = some ((0, 0), out ++ qe col suf) := by
  induction n with
  | zero => intro pre suf col out h; exact absurd h (by omega)
  | succ n ih =>
    intro pre suf col out h hb hc ho
    cases suf with
    | nil =>
      rw [F_quoted_Encode_p0, F_quoted_Encode_b0, bif_df (by simp)]
      simp [F_basic_None, qe]
    | cons c suf =>
      simp only [List.length_cons] at h hb ho
      rw [F_quoted_Encode_p0, F_quoted_Encode_b0, bif_dt (by simp; omega), bif_dt (by simp; omega), drop_mid, line_eq, Option.bind_some, nx_nat _ (by omega)]
      have step : ∀ (col' : Nat) (u : List UInt8) , col' ≤ 80 → u.length ≤ 8 → F_quoted_Encode_p0 fu n (pre ++ c :: suf) (col' : Int) ((pre.length + 1 : Nat) : Int) m16 (out ++ u) = some ((0, 0), out ++ u ++ qe col' suf) := by
        intro col' u h1 h2
        have := ih (pre ++ [c]) suf col' (out ++ u) (by omega) (by simp; omega) h1 (by simp; omega)
        simpa using this
      have hlen := sgn_len c (endB suf)
      cases suf with
      | nil =>
        rw [bif_f (show isL [c] = false from rfl), bif_dt (by simp; omega), idx_mid, Option.bind_some, drop_mid1, sign_eq, Option.bind_some, bif_df (by simp)]
        unfold F_quoted_Encode_p1
        rw [bif_f rfl, show (76 : Int) = ((76 : Nat) : Int) from rfl, enc_p2 fu _ _ col pre.length 76 m16 out _ (by omega) (by omega) (by simp only [rowMax]; omega) (by omega)]
        simp only [qe]
        have e : endB ([] : List UInt8) = true := rfl
        rw [e] at hlen ⊢
        by_cases k : 76 < col + (sgn c true).length
        · rw [if_pos k, if_pos k]
          have := step (sgn c true).length ([61, 13, 10] ++ sgn c true) (by omega) (by simp; omega)
          simpa [qe] using this
        · rw [if_neg k, if_neg k]
          have := step (col + (sgn c true).length) (sgn c true) (by omega) (by omega)
          simpa [qe] using this
      | cons d r =>
        simp only [List.length_cons] at h hb ho
        by_cases k : c = 13 ∧ d = 10
        · rw [bif_t (show isL (c :: d :: r) = true by simp [isL, k]), bif_dt (by simp [rowMax]; omega), nx_nat _ (by omega)]
          have := ih (pre ++ [c, d]) r 0 (out ++ [13, 10]) (by omega) (by simp; omega) (by omega) (by simp; omega)
          simp only [List.length_append, List.length_cons, List.length_nil, Nat.zero_add, List.append_assoc, List.cons_append, List.nil_append] at this
          simp only [qe]
          rw [if_pos k]
          simpa [Int.add_assoc] using this
        · have hk : isL (c :: d :: r) = false := by
            simp only [isL]
            by_cases k1 : c = 13
            · have : d ≠ 10 := fun q => k ⟨k1, q⟩
              simp [this]
            · simp [k1]
          rw [bif_f hk, bif_dt (by simp; omega), idx_mid, Option.bind_some, drop_mid1, sign_eq, Option.bind_some, bif_dt (by simp <;> omega), line_eq, Option.bind_some]
          have e : endB (d :: r) = isL (d :: r) := rfl
          rw [e] at hlen ⊢
          unfold F_quoted_Encode_p1
          simp only [qe]
          rw [if_neg k]
          have fin : ∀ most : Nat, most ≤ 76 → (if most < col + (sgn c (isL (d :: r))).length then F_quoted_Encode_p0 fu n (pre ++ c :: d :: r) ((sgn c (isL (d :: r))).length : Int) ((pre.length + 1 : Nat) : Int) m16 (out ++ [61, 13, 10] ++ sgn c (isL (d :: r))) else F_quoted_Encode_p0 fu n (pre ++ c :: d :: r) ((col + (sgn c (isL (d :: r))).length : Nat) : Int) ((pre.length + 1 : Nat) : Int) m16 (out ++ sgn c (isL (d :: r)))) = some ((0, 0), out ++ (if most < col + (sgn c (isL (d :: r))).length then [61, 13, 10] ++ sgn c (isL (d :: r)) ++ qe (sgn c (isL (d :: r))).length (d :: r) else sgn c (isL (d :: r)) ++ qe (col + (sgn c (isL (d :: r))).length) (d :: r))) := by
            intro most hmost
            by_cases q : most < col + (sgn c (isL (d :: r))).length
            · rw [if_pos q, if_pos q]
              have := step (sgn c (isL (d :: r))).length ([61, 13, 10] ++ sgn c (isL (d :: r))) (by omega) (by simp; omega)
              simpa using this
            · rw [if_neg q, if_neg q]
              have := step (col + (sgn c (isL (d :: r))).length) (sgn c (isL (d :: r))) (by omega) (by omega)
              simpa using this
          cases hl : isL (d :: r)
          · rw [bif_t (show (!false) = true from rfl), show (75 : Int) = ((75 : Nat) : Int) from rfl, enc_p2 fu _ _ col pre.length 75 m16 out _ (by omega) (by omega) (by rw [hl] at hlen; simp only [rowMax]; omega) (by rw [hl] at hlen; omega)]
            have := fin 75 (by omega)
            rw [hl] at this
            simpa using this
          · rw [bif_f (show (!true) = false from rfl), show (76 : Int) = ((76 : Nat) : Int) from rfl, enc_p2 fu _ _ col pre.length 76 m16 out _ (by omega) (by omega) (by rw [hl] at hlen; simp only [rowMax]; omega) (by rw [hl] at hlen; omega)]
            have := fin 76 (by omega)
            rw [hl] at this
            simpa using this
end Go.Sym
/- The document's quoted-printable: lines of units. -/
namespace Go.Sym

theorem qenc_eq (fu : Nat) (b : List UInt8) (hf : b.length < fu) (hb : b.length ≤ 12000) : F_quoted_Encode fu b = some ((0, 0), qe 0 b) := by
  unfold F_quoted_Encode
  rw [bif_df (by omega)]
  have := qenc_go fu fu (0, 0) [] b 0 [] hf (by simp; omega) (by omega) (by simp; omega)
  exact this
theorem qenc_big (fu : Nat) (b : List UInt8) (hb : 12000 < b.length) : F_quoted_Encode fu b = some ((1, -1), []) := by
  unfold F_quoted_Encode F_basic_Fault
  rw [bif_dt (by omega)]; rfl
def two (c : UInt8) : List UInt8 := (F_R1_Two c).getD []
set_option maxRecDepth 100000 in
theorem two_all : ∀ n : _root_.Fin 256, F_R1_Two (UInt8.ofNat n.val) = some (two (UInt8.ofNat n.val)) ∧ (two (UInt8.ofNat n.val)).length = 2 := by decide +kernel
theorem two_eq (c : UInt8) : F_R1_Two c = some (two c) := (byte_all (fun c => F_R1_Two c = some (two c) ∧ (two c).length = 2) two_all c).1
theorem two_len (c : UInt8) : (two c).length = 2 := (byte_all (fun c => F_R1_Two c = some (two c) ∧ (two c).length = 2) two_all c).2
def inB (c : UInt8) : Bool := decide ((33 : Int) ≤ (c.toNat : Int) ∧ (c.toNat : Int) ≤ 126)
def blB (c : UInt8) : Bool := bif c == 32 then true else c == 9
theorem rblank_eq (c : UInt8) : F_R1_Blank c = some (blB c) := by unfold F_R1_Blank blB; cases c == 32 <;> rfl
def flagB (c : UInt8) (last : Bool) : Bool := bif inB c then (bif c != 61 then true else bif blB c then !last else false) else bif blB c then !last else false
def un1 (c : UInt8) (f : Bool) : List UInt8 := bif f then [c] else [61] ++ two c
set_option maxRecDepth 100000 in
theorem flag_all : ∀ n : _root_.Fin 256, ∀ e : Bool, un1 (UInt8.ofNat n.val) (flagB (UInt8.ofNat n.val) e) = sgn (UInt8.ofNat n.val) e := by decide +kernel
theorem flag_eq (c : UInt8) (e : Bool) : un1 c (flagB c e) = sgn c e := byte_all (fun c => ∀ e, un1 c (flagB c e) = sgn c e) flag_all c e
/-- the units of a line -/
def un : List UInt8 → List (List UInt8)
  | [] => []
  | c :: r => sgn c r.isEmpty :: un r
theorem lu_p1 (fu : Nat) (r0 : List UInt8 → Int → List (List UInt8) → Option (List (List UInt8))) (s0 : List UInt8) (i : Nat) (c : UInt8) (f : Bool) (m : List (List UInt8)) (hi : i < 1000000000) (hm : m.length < 1000000000) :
    F_R1_LineUnits_p1 fu r0 s0 (i : Int) c f m = r0 s0 ((i + 1 : Nat) : Int) (m ++ [un1 c f]) := by
  unfold F_R1_LineUnits_p1 un1
  have h2 := two_len c
  cases f
  · rw [bif_f rfl, two_eq, Option.bind_some, bif_dt (by rw [h2]; simp [strMax]), bif_dt (by simp [rowMax]; omega), nx_nat _ (by omega)]; rfl
  · rw [bif_t rfl, bif_dt (by simp [rowMax]; omega), nx_nat _ (by omega)]; rfl
theorem lu_go (fu n : Nat) : ∀ (pre suf : List UInt8) (out : List (List UInt8)), suf.length < n → pre.length + suf.length < 100000000 → out.length + suf.length < 1000000000 →
    F_R1_LineUnits_p0 fu n (pre ++ suf) (pre.length : Int) out = some (out ++ un suf) := by
  induction n with
  | zero => intro pre suf out h; exact absurd h (by omega)
  | succ n ih =>
    intro pre suf out h hb ho
    cases suf with
    | nil => rw [F_R1_LineUnits_p0, F_R1_LineUnits_b0, bif_df (by simp)]; simp [un]
    | cons c suf =>
      simp only [List.length_cons] at h hb ho
      rw [F_R1_LineUnits_p0, F_R1_LineUnits_b0, bif_dt (by simp; omega), idx_mid, Option.bind_some, r1_in_eq, Option.bind_some, rblank_eq]
      simp only [Option.bind_some, lu_p1 fu _ _ pre.length c _ out (by omega) (by omega)]
      have last : decide (w64 ((pre.length : Int) + 1) < ((pre ++ c :: suf).length : Int)) = !suf.isEmpty := by
        rw [nx_nat _ (by omega)]
        cases suf with
        | nil => simp
        | cons x r => simp; omega
      rw [last]
      have e : ∀ k : List (List UInt8) → Option (List (List UInt8)), (bif decide ((33 : Int) ≤ (c.toNat : Int) ∧ (c.toNat : Int) ≤ 126) then
            bif c != 61 then k (out ++ [un1 c true]) else bif blB c then k (out ++ [un1 c (!suf.isEmpty)]) else k (out ++ [un1 c false])
          else bif blB c then k (out ++ [un1 c (!suf.isEmpty)]) else k (out ++ [un1 c false])) = k (out ++ [sgn c suf.isEmpty]) := by
        intro k
        rw [← flag_eq]
        unfold flagB
        show (bif inB c then _ else _) = _
        cases inB c <;> cases (c != 61) <;> cases blB c <;> rfl
      rw [e]
      have := ih (pre ++ [c]) suf (out ++ [sgn c suf.isEmpty]) (by omega) (by simp; omega) (by simp; omega)
      simp only [List.length_append, List.length_cons, List.length_nil, Nat.zero_add, List.append_assoc, List.cons_append, List.nil_append] at this
      rw [this]; simp [un]
theorem lu_eq (fu : Nat) (s : List UInt8) (hf : s.length < fu) (hs : s.length < 100000000) : F_R1_LineUnits fu s = some (un s) := by
  have := lu_go fu fu [] s [] hf (by simp; omega) (by simp; omega)
  exact this
/-- the units, in lines -/
def qu (col : Nat) : List (List UInt8) → List UInt8
  | [] => []
  | [u] => (if 76 < col + u.length then [61, 13, 10] else []) ++ u
  | u :: v :: us => if 75 < col + u.length then [61, 13, 10] ++ u ++ qu u.length (v :: us) else u ++ qu (col + u.length) (v :: us)
theorem p6_eq (fu : Nat) (r0 : List UInt8 → List UInt8 → Int → Option (List UInt8)) (r4 : List UInt8 → List UInt8 → Int → Int → Int → List (List UInt8) → Option (List UInt8)) (s0 s3 : List UInt8) (s5 : Int) (col : Nat) (pre : List (List UInt8)) (u : List UInt8) (us : List (List UInt8)) (hc : col ≤ 1000) (hp : pre.length < 1000000000) (hu : u.length ≤ 8) (hs : s3.length ≤ 2000000000) :
    F_R1_Quoted_p6 fu r0 r4 s0 s3 s5 (col : Int) (pre.length : Int) (pre ++ u :: us) = r4 s0 (s3 ++ u) s5 ((col + u.length : Nat) : Int) ((pre.length + 1 : Nat) : Int) (pre ++ u :: us) := by
  unfold F_R1_Quoted_p6 F_R1_Quoted_p7
  rw [bif_dt (by simp), get_mid, Option.bind_some, bif_dt (by simp only [strMax]; omega), bif_dt (by simp), Option.bind_some, nx_nat _ (by omega)]
  have : w64 ((col : Int) + (u.length : Int)) = ((col + u.length : Nat) : Int) := by rw [w64_eq (by omega) (by omega)]; omega
  rw [this]
theorem p5_eq (fu : Nat) (r0 : List UInt8 → List UInt8 → Int → Option (List UInt8)) (r4 : List UInt8 → List UInt8 → Int → Int → Int → List (List UInt8) → Option (List UInt8)) (s0 s3 : List UInt8) (s5 : Int) (col most : Nat) (pre : List (List UInt8)) (u : List UInt8) (us : List (List UInt8)) (hc : col ≤ 900) (hp : pre.length < 1000000000) (hu : u.length ≤ 8) (hs : s3.length + 3 ≤ 2000000000) :
    F_R1_Quoted_p5 fu r0 r4 s0 s3 s5 (col : Int) (pre.length : Int) (most : Int) (pre ++ u :: us) =
      if most < col + u.length then r4 s0 (s3 ++ [61, 13, 10] ++ u) s5 (u.length : Int) ((pre.length + 1 : Nat) : Int) (pre ++ u :: us) else r4 s0 (s3 ++ u) s5 ((col + u.length : Nat) : Int) ((pre.length + 1 : Nat) : Int) (pre ++ u :: us) := by
  unfold F_R1_Quoted_p5
  have : w64 ((col : Int) + (u.length : Int)) = ((col + u.length : Nat) : Int) := by rw [w64_eq (by omega) (by omega)]; omega
  rw [bif_dt (by simp), get_mid, Option.bind_some, this, bif_d]
  by_cases c : most < col + u.length
  · rw [if_pos (show (most : Int) < ((col + u.length : Nat) : Int) by omega), if_pos c, bif_dt (by simp [strMax]; omega)]
    have := p6_eq fu r0 r4 s0 (s3 ++ [61, 13, 10]) s5 0 pre u us (by omega) hp hu (by simp; omega)
    rw [Nat.zero_add] at this
    exact this
  · rw [if_neg (show ¬ (most : Int) < ((col + u.length : Nat) : Int) by omega), if_neg c]
    exact p6_eq fu r0 r4 s0 s3 s5 col pre u us (by omega) hp hu (by omega)
/-- behind the units of a line -/
def lineEnd (r0 : List UInt8 → List UInt8 → Int → Option (List UInt8)) (s0 : List UInt8) (s5 : Int) (s3 : List UInt8) : Option (List UInt8) :=
  bif s5 == (List.length s0 : Int) then
    bif decide (List.length s3 ≤ maxLen) then some s3 else none
  else
    bif decide (List.length s3 + List.length ([13, 10] : List UInt8) ≤ strMax) then r0 s0 (s3 ++ ([13, 10] : List UInt8)) (w64 (s5 + (2 : Int))) else none
theorem p4_go (fu : Nat) (r0 : List UInt8 → List UInt8 → Int → Option (List UInt8)) (s0 : List UInt8) (s5 : Int) (n : Nat) : ∀ (pre suf : List (List UInt8)) (s3 : List UInt8) (col : Nat), suf.length < n → pre.length + suf.length < 100000000 → (∀ u ∈ suf, u.length ≤ 8) → col ≤ 90 → s3.length + 20 * suf.length ≤ 1900000000 →
    F_R1_Quoted_p4 fu r0 n s0 s3 s5 (col : Int) (pre.length : Int) (pre ++ suf) = lineEnd r0 s0 s5 (s3 ++ qu col suf) := by
  induction n with
  | zero => intro pre suf s3 col h; exact absurd h (by omega)
  | succ n ih =>
    intro pre suf s3 col h hb hu hc hs
    match suf with
    | [] => rw [F_R1_Quoted_p4, F_R1_Quoted_b4, bif_df (by simp)]; simp only [qu, List.append_nil]; rfl
    | [u] =>
      simp only [List.length_cons, List.length_nil] at h hb hs
      have hul := hu u List.mem_cons_self
      rw [F_R1_Quoted_p4, F_R1_Quoted_b4, bif_dt (by simp; omega), nx_nat _ (by omega), bif_t (by simp), show (76 : Int) = ((76 : Nat) : Int) from rfl, p5_eq fu _ _ _ _ _ _ _ _ _ _ (by omega) (by omega) hul (by omega)]
      have nxt : ∀ (s : List UInt8) (c : Nat), c ≤ 90 → s.length ≤ 1900000000 → F_R1_Quoted_p4 fu r0 n s0 s s5 (c : Int) ((pre.length + 1 : Nat) : Int) (pre ++ [u]) = lineEnd r0 s0 s5 s := by
        intro s c h1 h2
        have := ih (pre ++ [u]) [] s c (by simp; omega) (by simp; omega) (by simp) h1 (by simp; omega)
        simpa [qu] using this
      simp only [qu]
      by_cases k : 76 < col + u.length
      · rw [if_pos k, if_pos k, nxt _ _ (by omega) (by simp; omega)]; simp
      · rw [if_neg k, if_neg k, nxt _ _ (by omega) (by simp; omega)]; simp
    | u :: v :: us =>
      simp only [List.length_cons] at h hb hs
      have hul := hu u List.mem_cons_self
      rw [F_R1_Quoted_p4, F_R1_Quoted_b4, bif_dt (by simp; omega), nx_nat _ (by omega), bif_f (by simp; omega), show (75 : Int) = ((75 : Nat) : Int) from rfl, p5_eq fu _ _ _ _ _ _ _ _ _ _ (by omega) (by omega) hul (by omega)]
      have nxt : ∀ (s : List UInt8) (c : Nat), c ≤ 90 → s.length + 20 * (us.length + 1) ≤ 1900000000 → F_R1_Quoted_p4 fu r0 n s0 s s5 (c : Int) ((pre.length + 1 : Nat) : Int) (pre ++ u :: v :: us) = lineEnd r0 s0 s5 (s ++ qu c (v :: us)) := by
        intro s c h1 h2
        have := ih (pre ++ [u]) (v :: us) s c (by simp; omega) (by simp; omega) (fun x hx => hu x (List.mem_cons_of_mem _ hx)) h1 (by simp; omega)
        simpa using this
      simp only [qu]
      by_cases k : 75 < col + u.length
      · rw [if_pos k, if_pos k, nxt _ _ (by omega) (by simp; omega)]; simp
      · rw [if_neg k, if_neg k, nxt _ _ (by omega) (by simp; omega)]; simp
end Go.Sym
/- The document's quoted-printable is the program's. -/
namespace Go.Sym

/-- a line and what comes behind it -/
def sp : List UInt8 → List UInt8 × List UInt8
  | [] => ([], [])
  | c :: r => if isL (c :: r) then ([], c :: r) else (c :: (sp r).1, (sp r).2)
theorem sp_app : ∀ s : List UInt8, (sp s).1 ++ (sp s).2 = s
  | [] => rfl
  | c :: r => by
    unfold sp
    cases h : isL (c :: r)
    · simp [sp_app r]
    · simp
theorem sp_tail : ∀ s : List UInt8, (sp s).2 = [] ∨ ∃ r, (sp s).2 = 13 :: 10 :: r
  | [] => .inl rfl
  | c :: r => by
    unfold sp
    cases h : isL (c :: r)
    · simpa using sp_tail r
    · right
      cases r with
      | nil => cases h
      | cons d r =>
        simp only [isL, Bool.and_eq_true, beq_iff_eq] at h
        obtain ⟨rfl, rfl⟩ := h
        exact ⟨r, by simp⟩
theorem crlf_eq (pre : List UInt8) (c : UInt8) (suf : List UInt8) (hb : pre.length + suf.length < 100000000) : F_R1_Crlf (pre ++ c :: suf) (pre.length : Int) = some (isL (c :: suf)) := by
  rw [crlf_nat _ _ (by simp; omega) (by simp)]
  congr 1
  cases suf with
  | nil => simp [isL]
  | cons d r =>
    have e1 : (pre ++ c :: d :: r)[pre.length]? = some c := by simp
    have e2 : (pre ++ c :: d :: r)[pre.length + 1]? = some d := by simp
    rw [e1, e2]
    simp only [isL, Option.some.injEq]
    rw [Bool.eq_iff_iff]
    simp
/-- what comes behind a line -/
def tl : List UInt8 → List UInt8
  | _ :: _ :: r => 13 :: 10 :: qe 0 r
  | _ => []
theorem sp_empty (d : UInt8) (r : List UInt8) : (sp (d :: r)).1.isEmpty = isL (d :: r) := by
  unfold sp
  cases isL (d :: r) <;> rfl
theorem qe_sp : ∀ (s : List UInt8) (col : Nat), qe col s = qu col (un (sp s).1) ++ tl (sp s).2
  | [], col => rfl
  | [c], col => by
    have e : sp [c] = ([c], []) := by simp [sp, isL]
    rw [e]
    simp [un, qu, tl, qe]
  | c :: d :: r, col => by
    have ih := qe_sp (d :: r)
    by_cases k : c = 13 ∧ d = 10
    · have e : sp (c :: d :: r) = ([], c :: d :: r) := by
        unfold sp; rw [if_pos (by simp [isL, k])]
      rw [e]
      simp only [qe, un, qu, tl]
      rw [if_pos k]; rfl
    · have hk : isL (c :: d :: r) = false := by
        simp only [isL]
        by_cases k1 : c = 13
        · have : d ≠ 10 := fun q => k ⟨k1, q⟩
          simp [this]
        · simp [k1]
      have e : sp (c :: d :: r) = (c :: (sp (d :: r)).1, (sp (d :: r)).2) := by
        rw [sp, if_neg (by rw [hk]; simp)]
      rw [e]
      simp only [qe]
      rw [if_neg k, un, sp_empty]
      cases hl : isL (d :: r)
      · have ne : (sp (d :: r)).1 ≠ [] := by
          intro q
          have := sp_empty d r
          rw [q, hl] at this
          cases this
        rw [ih (sgn c false).length, ih (col + (sgn c false).length)]
        cases hu : un (sp (d :: r)).1 with
        | nil =>
          exfalso
          cases hx : (sp (d :: r)).1 with
          | nil => exact ne hx
          | cons y ys => rw [hx] at hu; simp [un] at hu
        | cons v us =>
          simp only [qu]
          by_cases q : 75 < col + (sgn c false).length
          · simp [q]
          · simp [q]
      · have em : (sp (d :: r)).1 = [] := by
          have := sp_empty d r
          rw [hl] at this
          simpa using this
        rw [ih (sgn c true).length, ih (col + (sgn c true).length), em]
        simp only [un, qu]
        by_cases q : 76 < col + (sgn c true).length
        · simp [q]
        · simp [q]
theorem un_len : ∀ (s : List UInt8), (un s).length = s.length
  | [] => rfl
  | c :: r => by simp [un, un_len r]
theorem un_small : ∀ (s : List UInt8), ∀ u ∈ un s, u.length ≤ 8
  | [], u, h => by cases h
  | c :: r, u, h => by
    unfold un at h
    rcases List.mem_cons.1 h with rfl | h
    · have := sgn_len c r.isEmpty; omega
    · exact un_small r u h
/-- the search for the line's end -/
theorem p1_go (fu : Nat) (r0 : List UInt8 → List UInt8 → Int → Option (List UInt8)) (n : Nat) : ∀ (pre mid suf s3 : List UInt8), suf.length < n → pre.length + mid.length + suf.length < 10000000 → mid.length + suf.length < fu → s3.length ≤ 1000000000 →
    F_R1_Quoted_p1 fu r0 n (pre ++ mid ++ suf) s3 (pre.length : Int) ((pre.length + mid.length : Nat) : Int) =
      lineEnd r0 (pre ++ mid ++ suf) ((pre.length + mid.length + (sp suf).1.length : Nat) : Int) (s3 ++ qu 0 (un (mid ++ (sp suf).1))) := by
  induction n with
  | zero => intro pre mid suf s3 h; exact absurd h (by omega)
  | succ n ih =>
    intro pre mid suf s3 h hb hf hs
    have stop : ∀ (r1 : List UInt8 → List UInt8 → Int → Int → Option (List UInt8)), (sp suf).1 = [] → F_R1_Quoted_p2 fu r0 r1 (pre ++ mid ++ suf) s3 (pre.length : Int) ((pre.length + mid.length : Nat) : Int) false =
        lineEnd r0 (pre ++ mid ++ suf) ((pre.length + mid.length + (sp suf).1.length : Nat) : Int) (s3 ++ qu 0 (un (mid ++ (sp suf).1))) := by
      intro r1 he
      unfold F_R1_Quoted_p2
      rw [bif_f rfl, bif_dt (by simp; omega)]
      have et : List.take (((pre.length + mid.length : Nat) : Int).toNat - (pre.length : Int).toNat) (List.drop (pre.length : Int).toNat (pre ++ mid ++ suf)) = mid := by
        rw [show ((pre.length + mid.length : Nat) : Int).toNat - (pre.length : Int).toNat = mid.length by omega, show (pre.length : Int).toNat = pre.length by omega]
        simp
      rw [et, lu_eq fu mid (by omega) (by omega), Option.bind_some, he]
      have := p4_go fu r0 (pre ++ mid ++ suf) ((pre.length + mid.length : Nat) : Int) fu [] (un mid) s3 0 (by rw [un_len]; omega) (by rw [un_len]; simp; omega) (un_small mid) (by omega) (by rw [un_len]; omega)
      simpa using this
    cases suf with
    | nil =>
      rw [F_R1_Quoted_p1, F_R1_Quoted_b1, bif_df (by simp)]
      exact stop _ rfl
    | cons c suf =>
      simp only [List.length_cons] at h hb hf
      have hc := crlf_eq (pre ++ mid) c suf (by simp; omega)
      rw [List.length_append] at hc
      rw [F_R1_Quoted_p1, F_R1_Quoted_b1, bif_dt (by simp; omega), hc, Option.bind_some]
      cases hl : isL (c :: suf)
      · show F_R1_Quoted_p2 fu r0 _ _ s3 _ _ true = _
        unfold F_R1_Quoted_p2 F_R1_Quoted_p3
        rw [bif_t rfl, nx_nat _ (by omega)]
        have e : sp (c :: suf) = (c :: (sp suf).1, (sp suf).2) := by rw [sp, if_neg (by rw [hl]; simp)]
        have := ih pre (mid ++ [c]) suf s3 (by omega) (by simp; omega) (by simp; omega) hs
        rw [e]
        simp only [List.length_append, List.length_cons, List.length_nil, Nat.zero_add, List.append_assoc, List.cons_append, List.nil_append] at this ⊢
        rw [show pre.length + mid.length + 1 = pre.length + (mid.length + 1) by omega, this]
        congr 1
        congr 1
        omega
      · show F_R1_Quoted_p2 fu r0 _ _ s3 _ _ false = _
        refine stop _ ?_
        rw [sp, if_pos hl]
theorem un_three : ∀ (s : List UInt8), ∀ u ∈ un s, u.length ≤ 3
  | [], u, h => by cases h
  | c :: r, u, h => by
    unfold un at h
    rcases List.mem_cons.1 h with rfl | h
    · have := sgn_len c r.isEmpty; omega
    · exact un_three r u h
theorem qu_len : ∀ (us : List (List UInt8)) (col : Nat), (∀ u ∈ us, u.length ≤ 3) → (qu col us).length ≤ 6 * us.length
  | [], _, _ => by simp [qu]
  | [u], col, h => by
    have := h u List.mem_cons_self
    simp only [qu]
    split <;> simp <;> omega
  | u :: v :: us, col, h => by
    have h1 := h u List.mem_cons_self
    have a := qu_len (v :: us) u.length (fun x hx => h x (List.mem_cons_of_mem _ hx))
    have b := qu_len (v :: us) (col + u.length) (fun x hx => h x (List.mem_cons_of_mem _ hx))
    simp only [List.length_cons] at a b
    simp only [qu]
    split <;> simp <;> omega
theorem rq_go (fu n : Nat) : ∀ (pre suf out : List UInt8), suf.length < n → pre.length + suf.length < 10000000 → suf.length < fu → out.length + 6 * suf.length ≤ 900000000 →
    F_R1_Quoted_p0 fu n (pre ++ suf) out (pre.length : Int) = some (out ++ qe 0 suf) := by
  induction n with
  | zero => intro pre suf out h; exact absurd h (by omega)
  | succ n ih =>
    intro pre suf out h hb hf ho
    have hp := p1_go fu (F_R1_Quoted_p0 fu n) fu pre [] suf out hf (by simp; omega) (by simp; omega) (by omega)
    simp only [List.append_nil, List.length_nil, Nat.add_zero, List.nil_append] at hp
    rw [F_R1_Quoted_p0, F_R1_Quoted_b0, bif_dt (by simp; omega), hp, qe_sp]
    have ha := sp_app suf
    have hlen := congrArg List.length ha
    rw [List.length_append] at hlen
    have hql := qu_len (un (sp suf).1) 0 (un_three _)
    rw [un_len] at hql
    unfold lineEnd
    rw [bif_eq]
    rcases sp_tail suf with ht | ⟨r, ht⟩
    · rw [ht] at hlen ⊢
      rw [if_pos (by simp at hlen ⊢; omega), bif_dt (by simp only [maxLen, List.length_append]; omega)]
      simp [tl]
    · rw [ht] at hlen ⊢
      simp only [List.length_cons] at hlen
      rw [if_neg (by simp; omega), bif_dt (by simp only [strMax, List.length_append, List.length_cons, List.length_nil]; omega)]
      have e2 : w64 (((pre.length + (sp suf).1.length : Nat) : Int) + 2) = ((pre.length + (sp suf).1.length + 2 : Nat) : Int) := by rw [w64_eq (by omega) (by omega)]; omega
      rw [e2]
      rw [ht] at ha
      have := ih (pre ++ (sp suf).1 ++ [13, 10]) r (out ++ qu 0 (un (sp suf).1) ++ [13, 10]) (by omega) (by simp; omega) (by omega) (by simp; omega)
      simp only [List.length_append, List.length_cons, List.length_nil, Nat.zero_add, List.append_assoc, List.cons_append, List.nil_append] at this
      rw [ha] at this
      simp only [List.append_assoc, List.cons_append, List.nil_append] at this ⊢
      rw [show pre.length + (sp suf).1.length + 2 = pre.length + ((sp suf).1.length + 2) by omega]
      rw [show (1 + 1 : Nat) = 2 from rfl] at this
      rw [this]
      simp [tl]
theorem rquoted_eq (fu : Nat) (b : List UInt8) (hf : b.length < fu) (hb : b.length ≤ 12000) : F_R1_Quoted fu b = some (qe 0 b) := by
  have := rq_go fu fu [] b [] hf (by simp; omega) hf (by simp; omega)
  exact this
end Go.Sym
/- The laws of transfer.Encode and transfer.Choose, in plain words. -/
namespace Go.Sym

theorem cod_cases (s : List UInt8) : cod s = 0 ∨ cod s = 1 ∨ cod s = 2 ∨ cod s = 3 ∨ cod s = -1 := by
  unfold cod
  split
  · exact .inl rfl
  · split
    · exact .inr (.inl rfl)
    · split
      · exact .inr (.inr (.inl rfl))
      · split
        · exact .inr (.inr (.inr (.inl rfl)))
        · exact .inr (.inr (.inr (.inr rfl)))
theorem example_eq (n : Nat) : F_W2_transferExample (n + 400) = some true := by kernel_rfl
theorem example_fu (fu : Nat) (h : 400 ≤ fu) : F_W2_transferExample fu = some true := by
  obtain ⟨n, rfl⟩ : ∃ n, fu = n + 400 := ⟨fu - 400, by omega⟩
  exact example_eq n
/-- what transfer.Encode hands back -/
def encR (b name : List UInt8) : (Int × Int) × List UInt8 :=
  if cod name = -1 then ((18, -3), []) else if 12000 < b.length then ((1, -1), []) else
  if cod name = 0 then (if 0 ≤ refd b false then ((17, refd b false), []) else ((0, 0), b)) else
  if cod name = 1 then (if 0 ≤ refd b true then ((17, refd b true), []) else ((0, 0), b)) else
  if cod name = 2 then ((0, 0), lines76 (e64 b)) else ((0, 0), qe 0 b)
theorem copied_eq (b : List UInt8) (h : b.length ≤ 12000) : F_transfer_copied b = some ((0, 0), b) := by
  unfold F_transfer_copied F_basic_None
  rw [bif_dt (by simp only [rowMax]; omega)]; rfl
theorem plainE_eq (fu : Nat) (b : List UInt8) (e : Bool) (hf : 12000 < fu) (h : b.length ≤ 12000) : (F_transfer_plain_1 fu b (if e then 255 else 127)).bind (fun x => some (x.1, x.2.2)) = some (if 0 ≤ refd b e then ((17, refd b e), []) else ((0, 0), b)) := by
  unfold F_transfer_plain_1 F_basic_Fault
  rw [wrong_is fu b e (by omega) (by omega), Option.bind_some, copied_eq b h, bif_d]
  split <;> rfl
theorem encode_eq (fu : Nat) (b name : List UInt8) (hf : 100000 + name.length < fu) (hn : name.length ≤ maxLen) : F_transfer_Encode fu b name = some (encR b name) := by
  unfold F_transfer_Encode F_transfer_valid
  rw [find_eq fu name (by omega) (by omega) hn]
  simp only [Option.bind_some, F_basic_Fault, F_basic_None, F_basic_Failed]
  unfold encR
  rcases cod_cases name with h | h | h | h | h <;> rw [h]
  · by_cases hl : 12000 < b.length
    · have hi : (12000 : Int) < (b.length : Int) := by omega
      simp [sumK, hl, hi]
    · have hi : ¬ (12000 : Int) < (b.length : Int) := by omega
      have := plainE_eq fu b false (by omega) (by omega)
      simp [sumK, hl, hi] at this ⊢
      exact this
  · by_cases hl : 12000 < b.length
    · have hi : (12000 : Int) < (b.length : Int) := by omega
      simp [sumK, hl, hi]
    · have hi : ¬ (12000 : Int) < (b.length : Int) := by omega
      have := plainE_eq fu b true (by omega) (by omega)
      simp [sumK, hl, hi] at this ⊢
      exact this
  · by_cases hl : 12000 < b.length
    · have hi : (12000 : Int) < (b.length : Int) := by omega
      simp [sumK, hl, hi]
    · have hi : ¬ (12000 : Int) < (b.length : Int) := by omega
      simp [sumK, hl, hi, enc64_eq fu b (by omega) (by omega)]
  · by_cases hl : 12000 < b.length
    · have hi : (12000 : Int) < (b.length : Int) := by omega
      simp [sumK, hl, hi]
    · have hi : ¬ (12000 : Int) < (b.length : Int) := by omega
      simp [sumK, hl, hi, qenc_eq fu b (by omega) (by omega)]
  · simp [sumK]
theorem at_eq (a b : Int) : F_R1_At a b = some (a, b) := rfl
theorem bytes_eq (a b : List UInt8) : F_R1_Bytes a b = some (a == b) := rfl
theorem law_encode (fu : Nat) (b name : List UInt8) (hf : 100000 + name.length < fu) (hn : name.length ≤ maxLen) : F_W2_TransferEncodeMatchesSpec fu b name = some true := by
  unfold F_W2_TransferEncodeMatchesSpec F_W2_TransferEncodeMatchesSpec_p0
  rw [example_fu fu (by omega), encode_eq fu b name hf hn, coding_eq fu name (by omega) (by omega) hn]
  simp only [Option.bind_some, at_eq, bytes_eq]
  unfold encR
  rcases cod_cases name with h | h | h | h | h <;> rw [h]
  · by_cases hl : 12000 < b.length
    · have hi : (12000 : Int) < (b.length : Int) := by omega
      simp [hl, hi]
    · have hi : ¬ (12000 : Int) < (b.length : Int) := by omega
      rw [show ((0 : Int) == 1) = false from rfl, refused_eq fu b false (by omega) (by omega)]
      by_cases hr : 0 ≤ refd b false
      · simp [hl, hi, hr]
      · simp [hl, hi, hr, F_R2_Transferred]
  · by_cases hl : 12000 < b.length
    · have hi : (12000 : Int) < (b.length : Int) := by omega
      simp [hl, hi]
    · have hi : ¬ (12000 : Int) < (b.length : Int) := by omega
      rw [show ((1 : Int) == 1) = true from rfl, refused_eq fu b true (by omega) (by omega)]
      by_cases hr : 0 ≤ refd b true
      · simp [hl, hi, hr]
      · simp [hl, hi, hr, F_R2_Transferred]
  · by_cases hl : 12000 < b.length
    · have hi : (12000 : Int) < (b.length : Int) := by omega
      simp [hl, hi]
    · have hi : ¬ (12000 : Int) < (b.length : Int) := by omega
      simp [hl, hi, F_R2_Transferred, rlines_eq fu b (by omega) (by omega)]
  · by_cases hl : 12000 < b.length
    · have hi : (12000 : Int) < (b.length : Int) := by omega
      simp [hl, hi]
    · have hi : ¬ (12000 : Int) < (b.length : Int) := by omega
      simp [hl, hi, F_R2_Transferred, rquoted_eq fu b (by omega) (by omega)]
  · simp
theorem law_choose (fu : Nat) (b : List UInt8) (hf : 100000 < fu) : F_W2_TransferChooseMatchesSpec fu b = some true := by
  unfold F_W2_TransferChooseMatchesSpec F_transfer_Choose
  rw [example_fu fu (by omega)]
  simp only [Option.bind_some, at_eq, F_basic_Fault, F_basic_None]
  by_cases hl : 12000 < b.length
  · have hi : (12000 : Int) < (b.length : Int) := by omega
    simp [hl, hi]
  · have hi : ¬ (12000 : Int) < (b.length : Int) := by omega
    have hw := wrong_is fu b false (by omega) (by omega)
    rw [show (if false = true then (255 : UInt8) else 127) = 127 from rfl] at hw
    rw [hw, refused_eq fu b false (by omega) (by omega), qenc_eq fu b (by omega) (by omega), enc64_eq fu b (by omega) (by omega), rquoted_eq fu b (by omega) (by omega), rlines_eq fu b (by omega) (by omega)]
    by_cases hr : refd b false < 0
    · simp [hl, hi, hr]
    · by_cases hc : (lines76 (e64 b)).length < (qe 0 b).length
      · have h2 : ¬ (qe 0 b).length ≤ (lines76 (e64 b)).length := by omega
        simp [hl, hi, hr, hc, h2]
      · have h2 : (qe 0 b).length ≤ (lines76 (e64 b)).length := by omega
        simp [hl, hi, hr, hc, h2]
end Go.Sym
/- base64, decoded: bits. -/
namespace Go.Sym

def v64 (c : UInt8) : Int := Lib.indexByte alpha c
set_option maxRecDepth 100000 in
theorem v64_all : ∀ n : _root_.Fin 256, v64 (UInt8.ofNat n.val) = -1 ∨ (0 ≤ v64 (UInt8.ofNat n.val) ∧ v64 (UInt8.ofNat n.val) < 64) := by decide +kernel
theorem v64_rng (c : UInt8) : v64 c = -1 ∨ (0 ≤ v64 c ∧ v64 c < 64) := byte_all (fun c => v64 c = -1 ∨ (0 ≤ v64 c ∧ v64 c < 64)) v64_all c
theorem value64_more (fu fu' : Nat) (c : UInt8) : ∀ (n m : Nat) (k r : Int), n ≤ m → F_R1_value64_p0 fu n c k = some r → F_R1_value64_p0 fu' m c k = some r
  | 0, _, _, _, _, h => by cases h
  | n + 1, 0, _, _, hm, _ => absurd hm (by omega)
  | n + 1, m + 1, k, r, hm, h => by
    have ih := fun k => value64_more fu fu' c n m k r (by omega)
    rw [F_R1_value64_p0, F_R1_value64_b0] at h ⊢
    rw [bif_d] at h ⊢
    split at h
    · rename_i q
      rw [if_pos q]
      revert h
      cases hi : idx ([65, 66, 67, 68, 69, 70, 71, 72, 73, 74, 75, 76, 77, 78, 79, 80, 81, 82, 83, 84, 85, 86, 87, 88, 89, 90, 97, 98, 99, 100, 101, 102, 103, 104, 105, 106, 107, 108, 109, 110, 111, 112, 113, 114, 115, 116, 117, 118, 119, 120, 121, 122, 48, 49, 50, 51, 52, 53, 54, 55, 56, 57, 43, 47] : List UInt8) k with
      | none => intro h; cases h
      | some y =>
        simp only [Option.bind_some]
        cases y == c
        · exact ih _
        · exact id
    · rename_i q
      rw [if_neg q]; exact h
set_option maxRecDepth 100000 in
theorem value64_all : ∀ n : _root_.Fin 256, F_R1_value64_p0 0 66 (UInt8.ofNat n.val) 0 = some (v64 (UInt8.ofNat n.val)) := by decide +kernel
theorem value64_eq (fu : Nat) (c : UInt8) (h : 66 ≤ fu) : F_R1_value64 fu c = some (v64 c) :=
  value64_more 0 fu c 66 fu 0 _ h (byte_all (fun c => F_R1_value64_p0 0 66 c 0 = some (v64 c)) value64_all c)
/-- six bits of a number -/
def six (v : Nat) : List Nat := [v / 32 % 2, v / 16 % 2, v / 8 % 2, v / 4 % 2, v / 2 % 2, v % 2]
/-- the bits of characters up to an equals sign -/
def dbits : List UInt8 → List Nat
  | [] => []
  | c :: r => if c = 61 then [] else if v64 c < 0 then dbits r else six (v64 c).toNat ++ dbits r
/-- eight bits at a time -/
def by8 : List Nat → List UInt8
  | a :: b :: c :: d :: e :: f :: g :: h :: r => toU8 ((sumN 0 [a, b, c, d, e, f, g, h] : Nat) : Int) :: by8 r
  | _ => []
theorem sumN_lin : ∀ (l : List Nat) (a : Nat), sumN a l = a * 2 ^ l.length + sumN 0 l
  | [], a => by simp [sumN]
  | x :: l, a => by
    rw [sumN, sumN, sumN_lin l (2 * a + x), sumN_lin l (2 * 0 + x), List.length_cons, Nat.pow_succ, Nat.add_mul, Nat.add_mul]
    have : 2 * a * 2 ^ l.length = a * (2 ^ l.length * 2) := by rw [Nat.mul_comm 2 a, Nat.mul_assoc, Nat.mul_comm 2]
    omega
theorem sumN_app : ∀ (l m : List Nat) (a : Nat), sumN a (l ++ m) = sumN (sumN a l) m
  | [], _, _ => rfl
  | x :: l, m, a => sumN_app l m (2 * a + x)
theorem six_sum (a v : Nat) (h : v < 64) : sumN a (six v) = 64 * a + v := by
  simp only [six, sumN]; omega
theorem six_one (v : Nat) : ∀ x ∈ six v, x ≤ 1 := by
  intro x hx
  simp only [six, List.mem_cons, List.not_mem_nil, or_false] at hx
  omega
theorem by8_app (q r : List Nat) (h : 8 ≤ q.length) : by8 (q ++ r) = toU8 ((sumN 0 (q.take 8) : Nat) : Int) :: by8 (q.drop 8 ++ r) := by
  match q, h with
  | a :: b :: c :: d :: e :: f :: g :: i :: t, _ => simp [by8]
theorem by8_short (q : List Nat) (h : q.length < 8) : by8 q = [] := by
  match q, h with
  | [], _ => rfl
  | [_], _ => rfl
  | [_, _], _ => rfl
  | [_, _, _], _ => rfl
  | [_, _, _, _], _ => rfl
  | [_, _, _, _, _], _ => rfl
  | [_, _, _, _, _, _], _ => rfl
  | [_, _, _, _, _, _, _], _ => rfl
  | _ :: _ :: _ :: _ :: _ :: _ :: _ :: _ :: _, h => simp at h; omega
theorem or6 (x v : Nat) (h : x < 1099511627776) (hv : v < 64) : w64 (((BitVec.ofInt 64 (w64 ((x : Int) * 2 ^ min (6 : Int).toNat 64)) ||| BitVec.ofInt 64 (v : Int)).toNat : Int)) = ((64 * x + v : Nat) : Int) := by
  have e : w64 ((x : Int) * 2 ^ min (6 : Int).toNat 64) = ((64 * x : Nat) : Int) := by
    rw [show (2 : Int) ^ min (6 : Int).toNat 64 = 64 by decide, w64_eq (by omega) (by omega)]; omega
  rw [e, BitVec.toNat_or, ofInt_nat _ (by omega), ofInt_nat _ (by omega)]
  have := Nat.two_pow_add_eq_or_of_lt (i := 6) (b := v) (by simpa using hv) x
  rw [← show 2 ^ 6 * x + v = 64 * x ||| v from this]
  rw [w64_eq (by omega) (by omega)]
theorem andm (x k : Nat) (h : x < 1099511627776) (hk : k ≤ 20) : w64 (((BitVec.ofInt 64 (x : Int) &&& BitVec.ofInt 64 (w64 ((w64 ((1 : Int) * 2 ^ min (k : Int).toNat 64)) - (1 : Int)))).toNat : Int)) = ((x % 2 ^ k : Nat) : Int) := by
  have e1 : min (k : Int).toNat 64 = k := by omega
  have hp : 2 ^ k ≤ 2 ^ 20 := Nat.pow_le_pow_right (by omega) hk
  have hp1 : 1 ≤ 2 ^ k := Nat.one_le_two_pow
  have e2 : w64 ((1 : Int) * 2 ^ k) = ((2 ^ k : Nat) : Int) := by
    have : ((2 : Int) ^ k) = ((2 ^ k : Nat) : Int) := by simp
    rw [this, w64_eq (by omega) (by omega)]; omega
  have e3 : w64 (((2 ^ k : Nat) : Int) - 1) = ((2 ^ k - 1 : Nat) : Int) := by rw [w64_eq (by omega) (by omega)]; omega
  have hm : x % 2 ^ k ≤ x := Nat.mod_le _ _
  rw [e1, e2, e3, BitVec.toNat_and, ofInt_nat _ (by omega), ofInt_nat _ (by omega), Nat.and_two_pow_sub_one_eq_mod, w64_eq (by omega) (by omega)]
end Go.Sym
/- base64.Lenient in plain words. -/
namespace Go.Sym

theorem sumN_split (q : List Nat) (k : Nat) (h1 : ∀ x ∈ q, x ≤ 1) : sumN 0 (q.take k) = sumN 0 q / 2 ^ (q.length - k) ∧ sumN 0 (q.drop k) = sumN 0 q % 2 ^ (q.length - k) := by
  have e : sumN 0 q = sumN 0 (q.take k) * 2 ^ (q.drop k).length + sumN 0 (q.drop k) := by
    rw [← sumN_lin, ← sumN_app, List.take_append_drop]
  have hd := sumN_lt (q.drop k) 0 (fun x hx => h1 x (List.mem_of_mem_drop hx))
  rw [List.length_drop] at e hd
  have hlt : sumN 0 (q.drop k) < 2 ^ (q.length - k) := by omega
  rw [e, Nat.mul_comm, Nat.mul_add_div (by omega), Nat.mul_add_mod, Nat.div_eq_of_lt hlt, Nat.mod_eq_of_lt hlt]
  simp
theorem lenient_go (fu n : Nat) (m16 : Int × Int) : ∀ (pre suf : List UInt8) (p : List Nat) (out : List UInt8), suf.length < n → pre.length + suf.length < 100000000 → p.length < 8 → (∀ x ∈ p, x ≤ 1) → out.length + suf.length ≤ 1000000000 →
    F_base64_Lenient_p0 fu n ((sumN 0 p : Nat) : Int) (p.length : Int) (pre ++ suf) ((pre.length + suf.length : Nat) : Int) (pre.length : Int) m16 out = some ((0, 0), out ++ by8 (p ++ dbits suf)) := by
  induction n with
  | zero => intro pre suf p out h; exact absurd h (by omega)
  | succ n ih =>
    intro pre suf p out h hb hp h1 ho
    cases suf with
    | nil =>
      rw [F_base64_Lenient_p0, F_base64_Lenient_b0, bif_df (by simp)]
      simp [F_basic_None, dbits, by8_short p hp]
    | cons c suf =>
      simp only [List.length_cons] at h hb ho
      have nxt : ∀ (p : List Nat) (out : List UInt8), p.length < 8 → (∀ x ∈ p, x ≤ 1) → out.length + suf.length ≤ 1000000000 → F_base64_Lenient_p0 fu n ((sumN 0 p : Nat) : Int) (p.length : Int) (pre ++ c :: suf) ((pre.length + (suf.length + 1) : Nat) : Int) ((pre.length + 1 : Nat) : Int) m16 out = some ((0, 0), out ++ by8 (p ++ dbits suf)) := by
        intro p out h2 h3 h4
        have := ih (pre ++ [c]) suf p out (by omega) (by simp; omega) h2 h3 h4
        simp only [List.length_append, List.length_cons, List.length_nil, Nat.zero_add, List.append_assoc, List.cons_append, List.nil_append] at this
        rw [show pre.length + (suf.length + 1) = pre.length + 1 + suf.length by omega]
        exact this
      rw [F_base64_Lenient_p0, F_base64_Lenient_b0, bif_dt (by simp; omega), idx_mid, Option.bind_some, bif_eq8]
      simp only [List.length_cons]
      by_cases k : c = 61
      · rw [if_pos k]; simp [F_basic_None, dbits, k, by8_short p hp]
      · rw [if_neg k, bif_dt (by decide)]
        rw [show ([65, 66, 67, 68, 69, 70, 71, 72, 73, 74, 75, 76, 77, 78, 79, 80, 81, 82, 83, 84, 85, 86, 87, 88, 89, 90, 97, 98, 99, 100, 101, 102, 103, 104, 105, 106, 107, 108, 109, 110, 111, 112, 113, 114, 115, 116, 117, 118, 119, 120, 121, 122, 48, 49, 50, 51, 52, 53, 54, 55, 56, 57, 43, 47] : List UInt8) = alpha from rfl, show F_bytes_IndexByte alpha c = some (v64 c) from rfl, Option.bind_some, nx_nat _ (by omega), bif_d]
        rcases v64_rng c with hv | ⟨hv, hv2⟩
        · rw [hv, if_pos (by decide), nxt p out hp h1 (by omega)]
          simp [dbits, k, hv]
        · obtain ⟨v, hvv⟩ : ∃ v : Nat, v64 c = (v : Int) := ⟨(v64 c).toNat, by omega⟩
          have hv64 : v < 64 := by omega
          have hd : dbits (c :: suf) = six v ++ dbits suf := by
            rw [dbits, if_neg k, if_neg (by omega), hvv]; rfl
          have hq : sumN 0 (p ++ six v) = 64 * sumN 0 p + v := by rw [sumN_app, six_sum _ _ hv64]
          have hpl := sumN_lt p 0 h1
          have hp2 : 2 ^ p.length ≤ 2 ^ 7 := Nat.pow_le_pow_right (by omega) (by omega)
          have hql : (p ++ six v).length = p.length + 6 := by simp [six]
          have hq1 : ∀ x ∈ p ++ six v, x ≤ 1 := fun x hx => by
            rcases List.mem_append.1 hx with hx | hx
            · exact h1 x hx
            · exact six_one v x hx
          rw [hvv, if_neg (by omega), or6 _ _ (by omega) hv64, ← hq, hd, ← List.append_assoc]
          have e6 : w64 ((p.length : Int) + 6) = ((p.length + 6 : Nat) : Int) := by rw [w64_eq (by omega) (by omega)]; omega
          rw [e6, bif_d]
          by_cases h8 : 8 ≤ p.length + 6
          · have e8 : w64 (((p.length + 6 : Nat) : Int) - 8) = ((p.length + 6 - 8 : Nat) : Int) := by rw [w64_eq (by omega) (by omega)]; omega
            rw [if_pos (by omega), e8, bif_dt (by omega), bif_dt (by simp [rowMax]; omega), bif_dt (by omega)]
            rw [andm _ _ (by omega) (by omega)]
            obtain ⟨s1, s2⟩ := sumN_split (p ++ six v) 8 hq1
            rw [hql] at s1 s2
            rw [← s2, by8_app _ _ (by omega)]
            have e9 : Int.fdiv ((sumN 0 (p ++ six v) : Nat) : Int) (2 ^ min (((p.length + 6 - 8 : Nat) : Int)).toNat 64) = ((sumN 0 ((p ++ six v).take 8) : Nat) : Int) := by
              rw [s1, show min (((p.length + 6 - 8 : Nat) : Int)).toNat 64 = p.length + 6 - 8 by omega, Int.fdiv_eq_ediv_of_nonneg _ (by exact Int.le_of_lt (Int.pow_pos (by decide)))]
              simp
            rw [e9]
            have := nxt ((p ++ six v).drop 8) (out ++ [toU8 ((sumN 0 ((p ++ six v).take 8) : Nat) : Int)]) (by simp [six]; omega) (fun x hx => hq1 x (List.mem_of_mem_drop hx)) (by simp; omega)
            rw [List.length_drop, hql] at this
            rw [this]; simp
          · rw [if_neg (by omega)]
            have := nxt (p ++ six v) out (by omega) hq1 (by omega)
            rw [hql] at this
            exact this
end Go.Sym
/- The document's Loose64 in plain words. -/
namespace Go.Sym

theorem l4_step (fu : Nat) (r0 : List UInt8 → Int → List Int → Option (List UInt8)) (n : Nat) (s0 : List UInt8) (s4 : Int) (v k : Nat) (m : List Int) (hk : k ≤ 5) (hm : m.length < 1000000000) :
    F_R1_Loose64_p4 fu r0 (n + 1) s0 s4 (v : Int) (k : Int) m = F_R1_Loose64_p4 fu r0 n s0 s4 (v : Int) ((k : Int) - 1) (m ++ [((v / 2 ^ k % 2 : Nat) : Int)]) := by
  rw [F_R1_Loose64_p4, F_R1_Loose64_b4, bif_dt (by omega)]
  unfold F_R1_Loose64_p5
  rw [bif_dt (by omega)]
  unfold F_R1_Loose64_p6
  have e : IntKind.u64.wrap (k : Int) = (k : Int) := by
    unfold IntKind.wrap
    simp [IntKind.signed, IntKind.bits]
    omega
  rw [e, bif_dt (by omega), bit_eq v k _ rfl (by omega), bif_dt (by simp [rowMax]; omega), w64_eq (by omega) (by omega)]
theorem l4_end (fu : Nat) (r0 : List UInt8 → Int → List Int → Option (List UInt8)) (n : Nat) (s0 : List UInt8) (s4 v : Int) (m : List Int) : F_R1_Loose64_p4 fu r0 (n + 1) s0 s4 v (-1) m = r0 s0 (w64 (s4 + 1)) m := by
  rw [F_R1_Loose64_p4, F_R1_Loose64_b4, bif_df (by decide)]; rfl
theorem l4_neg (fu : Nat) (r0 : List UInt8 → Int → List Int → Option (List UInt8)) (n : Nat) (s0 : List UInt8) (s4 : Int) (m : List Int) : F_R1_Loose64_p4 fu r0 (n + 1) s0 s4 (-1) 5 m = r0 s0 (w64 (s4 + 1)) m := by
  rw [F_R1_Loose64_p4, F_R1_Loose64_b4, bif_dt (by decide), decide_eq_false (by decide)]; rfl
theorem l4_all (fu : Nat) (r0 : List UInt8 → Int → List Int → Option (List UInt8)) (n : Nat) (s0 : List UInt8) (s4 : Int) (v : Nat) (m : List Int) (hm : m.length < 100000000) :
    F_R1_Loose64_p4 fu r0 (n + 7) s0 s4 (v : Int) 5 m = r0 s0 (w64 (s4 + 1)) (m ++ cst (six v)) := by
  rw [show (5 : Int) = ((5 : Nat) : Int) from rfl, l4_step fu r0 (n + 6) s0 s4 v 5 m (by omega) (by omega)]
  rw [show ((5 : Nat) : Int) - 1 = ((4 : Nat) : Int) from rfl, l4_step fu r0 (n + 5) s0 s4 v 4 _ (by omega) (by simp; omega)]
  rw [show ((4 : Nat) : Int) - 1 = ((3 : Nat) : Int) from rfl, l4_step fu r0 (n + 4) s0 s4 v 3 _ (by omega) (by simp; omega)]
  rw [show ((3 : Nat) : Int) - 1 = ((2 : Nat) : Int) from rfl, l4_step fu r0 (n + 3) s0 s4 v 2 _ (by omega) (by simp; omega)]
  rw [show ((2 : Nat) : Int) - 1 = ((1 : Nat) : Int) from rfl, l4_step fu r0 (n + 2) s0 s4 v 1 _ (by omega) (by simp; omega)]
  rw [show ((1 : Nat) : Int) - 1 = ((0 : Nat) : Int) from rfl, l4_step fu r0 (n + 1) s0 s4 v 0 _ (by omega) (by simp; omega)]
  rw [show ((0 : Nat) : Int) - 1 = -1 from rfl, l4_end]
  congr 1
  simp [six, cst]
end Go.Sym
/- The document's Loose64: its loops. -/
namespace Go.Sym

theorem l3_go (fu n : Nat) (hfu : 8 < fu) : ∀ (pre suf : List Nat) (out : List UInt8), suf.length < n → pre.length + suf.length < 1000000000 → (∀ x ∈ suf, x ≤ 1) → out.length + suf.length ≤ 2000000000 →
    F_R1_Loose64_p3 fu n (cst (pre ++ suf)) (pre.length : Int) out = some (out ++ by8 suf) := by
  induction n with
  | zero => intro pre suf out h; exact absurd h (by omega)
  | succ n ih =>
    intro pre suf out h hb h1 ho
    have e8 : w64 ((pre.length : Int) + 8) = ((pre.length + 8 : Nat) : Int) := by rw [w64_eq (by omega) (by omega)]; omega
    rw [F_R1_Loose64_p3, F_R1_Loose64_b3, e8]
    by_cases c : suf.length < 8
    · rw [bif_df (by simp; omega), by8_short suf c]; simp
    · have et : List.take (((pre.length + 8 : Nat) : Int).toNat - (pre.length : Int).toNat) (List.drop (pre.length : Int).toNat (cst (pre ++ suf))) = cst (suf.take 8) := by
        rw [show ((pre.length + 8 : Nat) : Int).toNat - (pre.length : Int).toNat = 8 by omega, show (pre.length : Int).toNat = pre.length by omega]
        simp [cst]
      rw [bif_dt (by simp; omega), bif_dt (by simp; omega), et, sum_eq fu _ hfu (by simp; omega) (fun x hx => h1 x (List.mem_of_mem_take hx)), Option.bind_some, bif_dt (by simp [rowMax]; omega)]
      have := ih (pre ++ suf.take 8) (suf.drop 8) (out ++ [toU8 ((sumN 0 (suf.take 8) : Nat) : Int)]) (by simp; omega) (by simp; omega) (fun x hx => h1 x (List.mem_of_mem_drop hx)) (by simp; omega)
      rw [List.append_assoc, List.take_append_drop, List.length_append, List.length_take, Nat.min_eq_left (by omega)] at this
      rw [this]
      have q := by8_app suf [] (by omega)
      rw [List.append_nil, List.append_nil] at q
      rw [q]; simp
end Go.Sym
/- The document's Loose64 is the program's. -/
namespace Go.Sym

theorem l0_go (fu n : Nat) (hfu : 200 < fu) : ∀ (pre suf : List UInt8) (acc : List Nat), suf.length < n → pre.length + suf.length < 10000000 → (∀ x ∈ acc, x ≤ 1) → acc.length + 6 * suf.length < fu → acc.length + 6 * suf.length < 90000000 →
    F_R1_Loose64_p0 fu n (pre ++ suf) (pre.length : Int) (cst acc) = some (by8 (acc ++ dbits suf)) := by
  induction n with
  | zero => intro pre suf acc h; exact absurd h (by omega)
  | succ n ih =>
    intro pre suf acc h hb h1 hf hm
    have fin : F_R1_Loose64_p3 fu fu (cst acc) (0 : Int) [] = some (by8 acc) := by
      have := l3_go fu fu (by omega) [] acc [] (by omega) (by simp; omega) h1 (by simp; omega)
      exact this
    cases suf with
    | nil =>
      rw [F_R1_Loose64_p0, F_R1_Loose64_b0, bif_df (by simp)]
      unfold F_R1_Loose64_p1
      rw [bif_f rfl, fin]; simp [dbits]
    | cons c suf =>
      simp only [List.length_cons] at h hb hf hm
      rw [F_R1_Loose64_p0, F_R1_Loose64_b0, bif_dt (by simp; omega), idx_mid, Option.bind_some]
      unfold F_R1_Loose64_p1
      rw [bif_ne8]
      by_cases k : c = 61
      · rw [if_neg (by simp [k]), fin]; simp [dbits, k]
      · rw [if_pos k]
        unfold F_R1_Loose64_p2
        rw [idx_mid, Option.bind_some, value64_eq fu c (by omega), Option.bind_some]
        obtain ⟨m, rfl⟩ : ∃ m, fu = m + 7 := ⟨fu - 7, by omega⟩
        have nxt := fun acc => ih (pre ++ [c]) suf acc (by omega) (by simp; omega)
        simp only [List.length_append, List.length_cons, List.length_nil, Nat.zero_add, List.append_assoc, List.cons_append, List.nil_append] at nxt
        rcases v64_rng c with hv | ⟨hv, hv2⟩
        · rw [hv, l4_neg, nx_nat _ (by omega), nxt acc h1 (by omega) (by omega)]
          simp [dbits, k, hv]
        · obtain ⟨v, hvv⟩ : ∃ v : Nat, v64 c = (v : Int) := ⟨(v64 c).toNat, by omega⟩
          rw [hvv, l4_all _ _ _ _ _ _ _ (by simp; omega), nx_nat _ (by omega)]
          have e : cst acc ++ cst (six v) = cst (acc ++ six v) := by simp
          rw [e, nxt (acc ++ six v) (fun x hx => by
            rcases List.mem_append.1 hx with hx | hx
            · exact h1 x hx
            · exact six_one v x hx) (by simp [six]; omega) (by simp [six]; omega)]
          rw [dbits, if_neg k, if_neg (by omega), hvv]
          simp
end Go.Sym
/- base64, decoded: the program and the document. -/
namespace Go.Sym
theorem rloose_eq (fu : Nat) (b : List UInt8) (hb : b.length ≤ 24000) (hf : 6 * b.length + 300 < fu) : F_R1_Loose64 fu b = some (by8 (dbits b)) := by
  have := l0_go fu fu (by omega) [] b [] (by omega) (by simp; omega) (fun _ h => by cases h) (by simp; omega) (by simp; omega)
  exact this
theorem lenient_eq (fu : Nat) (b : List UInt8) (hb : b.length ≤ 24000) (hf : b.length < fu) : F_base64_Lenient fu b = some ((0, 0), by8 (dbits b)) := by
  unfold F_base64_Lenient
  rw [bif_df (by omega)]
  have := lenient_go fu fu (0, 0) [] b [] [] hf (by simp; omega) (by simp) (fun _ h => by cases h) (by simp; omega)
  simpa [sumN] using this
end Go.Sym
/- base64: what is encoded is decoded again. -/
namespace Go.Sym

theorem dbits_cong : ∀ (x y z : List UInt8), dbits y = dbits z → dbits (x ++ y) = dbits (x ++ z)
  | [], _, _, h => h
  | c :: x, y, z, h => by
    simp only [List.cons_append, dbits]
    rw [dbits_cong x y z h]
theorem dbits_crlf (y : List UInt8) : dbits (13 :: 10 :: y) = dbits y := by
  have h1 : v64 13 < 0 := by decide +kernel
  have h2 : v64 10 < 0 := by decide +kernel
  rw [dbits, if_neg (by decide), if_pos h1, dbits, if_neg (by decide), if_pos h2]
theorem dbits_ln : ∀ (n : Nat) (s : List UInt8), s.length < n → dbits (ln76 n s) = dbits s := by
  intro n
  induction n with
  | zero => intro s h; exact absurd h (by omega)
  | succ n ih =>
    intro s h
    rw [ln76]
    by_cases c : 76 < s.length
    · rw [if_pos c, List.append_assoc]
      have e : dbits ([13, 10] ++ ln76 n (s.drop 76)) = dbits (s.drop 76) := by
        rw [show ([13, 10] : List UInt8) ++ ln76 n (s.drop 76) = 13 :: 10 :: ln76 n (s.drop 76) from rfl, dbits_crlf, ih _ (by simp; omega)]
      rw [dbits_cong _ _ _ e, List.take_append_drop]
    · rw [if_neg c]
      by_cases k : s = []
      · rw [if_pos k, k]
      · rw [if_neg k]
        have := dbits_cong s [13, 10] [] (dbits_crlf [])
        rw [List.append_nil] at this
        exact this
theorem dbits_lines (s : List UInt8) : dbits (lines76 s) = dbits s := dbits_ln _ s (by omega)
set_option maxRecDepth 100000 in
theorem al_all : ∀ n : _root_.Fin 64, v64 (al n.val) = (n.val : Int) ∧ al n.val ≠ 61 ∧ 32 ≤ al n.val ∧ al n.val ≤ 126 := by decide +kernel
theorem al_v64 (k : Nat) (h : k < 64) : v64 (al k) = (k : Int) ∧ al k ≠ 61 ∧ 32 ≤ al k ∧ al k ≤ 126 := al_all ⟨k, h⟩
theorem dbits_ch6 : ∀ (q : List Nat) (r : List UInt8), q.length % 6 = 0 → (∀ x ∈ q, x ≤ 1) → dbits (ch6 q ++ r) = q ++ dbits r
  | [], _, _, _ => rfl
  | [_], _, h, _ => by simp at h
  | [_, _], _, h, _ => by simp at h
  | [_, _, _], _, h, _ => by simp at h
  | [_, _, _, _], _, h, _ => by simp at h
  | [_, _, _, _, _], _, h, _ => by simp at h
  | a :: b :: c :: d :: e :: f :: q, r, h, h1 => by
    have hs : ∀ x ∈ [a, b, c, d, e, f], x ≤ 1 := fun x hx => h1 x (by simp at hx ⊢; omega)
    have hlt := sumN_lt [a, b, c, d, e, f] 0 hs
    simp only [List.length_cons, List.length_nil] at hlt
    have hk : sumN 0 [a, b, c, d, e, f] < 64 := by omega
    obtain ⟨k1, k2, _, _⟩ := al_v64 _ hk
    have ha := hs a (by simp)
    have hb := hs b (by simp)
    have hc := hs c (by simp)
    have hd := hs d (by simp)
    have he := hs e (by simp)
    have hf := hs f (by simp)
    rw [ch6, List.cons_append, dbits, if_neg k2, if_neg (by rw [k1]; omega), k1]
    rw [dbits_ch6 q r (by simp only [List.length_cons] at h; omega) (fun x hx => h1 x (by simp [hx]))]
    have e6 : six ((sumN 0 [a, b, c, d, e, f] : Nat) : Int).toNat = [a, b, c, d, e, f] := by
      rw [Int.toNat_natCast]
      simp only [six, sumN, List.cons.injEq, and_true]
      refine ⟨?_, ?_, ?_, ?_, ?_, ?_⟩ <;> omega
    rw [e6]; rfl
theorem dbits_eqs (k : Nat) : dbits (List.replicate k 61) = [] := by
  cases k with
  | zero => rfl
  | succ k => rw [List.replicate_succ, dbits, if_pos rfl]
theorem pad6_len (s : List Nat) : (pad6 s).length % 6 = 0 := by
  unfold pad6; rw [List.length_append, List.length_replicate]; omega
theorem pad6_one (s : List Nat) (h : ∀ x ∈ s, x ≤ 1) : ∀ x ∈ pad6 s, x ≤ 1 := by
  intro x hx
  unfold pad6 at hx
  rcases List.mem_append.1 hx with hx | hx
  · exact h x hx
  · have := List.eq_of_mem_replicate hx; omega
theorem dbits_e64 (b : List UInt8) : dbits (e64 b) = pad6 (bits b) := by
  rw [← e64_eq, pad4, dbits_ch6 _ _ (pad6_len _) (pad6_one _ (bits_one b)), dbits_eqs, List.append_nil]
theorem by8_byte (c : UInt8) (r : List Nat) : by8 (nbits c ++ r) = c :: by8 r := by
  have hc : c.toNat < 256 := c.toNat_lt
  have e : sumN 0 (nbits c) = c.toNat := by
    simp only [nbits, sumN]; omega
  have := by8_app (nbits c) r (by simp [nbits])
  rw [this, show (nbits c).take 8 = nbits c from rfl, show (nbits c).drop 8 = [] from rfl, List.nil_append, e]
  congr 1
  show UInt8.ofNat ((c.toNat : Int) % 256).toNat = c
  rw [show ((c.toNat : Int) % 256).toNat = c.toNat by omega]
  simp
theorem by8_bits : ∀ (b : List UInt8) (k : Nat), k < 8 → by8 (bits b ++ List.replicate k 0) = b
  | [], k, h => by
    rw [show bits [] = [] from rfl, List.nil_append, by8_short _ (by simpa using h)]
  | c :: b, k, h => by
    rw [show bits (c :: b) = nbits c ++ bits b from rfl, List.append_assoc, by8_byte, by8_bits b k h]
/-- decoding undoes encoding -/
theorem by8_e64 (b : List UInt8) : by8 (dbits (lines76 (e64 b))) = b := by
  rw [dbits_lines, dbits_e64, pad6, by8_bits _ _ (by omega)]
end Go.Sym
/- Bodies that 7bit permits. -/
namespace Go.Sym

/-- bytes that may stand in a line -/
def prt (x : UInt8) : Prop := x ≠ 0 ∧ x ≠ 13 ∧ x ≠ 10 ∧ ¬ (127 : UInt8) < x
/-- lines that 7bit permits -/
inductive OkL : Nat → List UInt8 → Prop
  | nil (c : Nat) : OkL c []
  | crlf (c : Nat) (r : List UInt8) : OkL 0 r → OkL c (13 :: 10 :: r)
  | chr (c : Nat) (x : UInt8) (r : List UInt8) : prt x → c < 998 → OkL (c + 1) r → OkL c (x :: r)
theorem okl_app (u r : List UInt8) (h : ∀ x ∈ u, prt x) : ∀ (c : Nat), c + u.length ≤ 998 → OkL (c + u.length) r → OkL c (u ++ r) := by
  induction u with
  | nil => intro c _ hr; exact hr
  | cons x u ih =>
    intro c hc hr
    simp only [List.length_cons] at hc hr
    exact .chr c x _ (h x List.mem_cons_self) (by omega) (ih (fun y hy => h y (List.mem_cons_of_mem _ hy)) (c + 1) (by omega) (by rw [show c + 1 + u.length = c + (u.length + 1) by omega]; exact hr))
theorem okl_ref (fu : Nat) {c : Nat} {s : List UInt8} (h : OkL c s) : ∀ (n : Nat) (pre : List UInt8), s.length < n → c ≤ 998 → c ≤ pre.length → pre.length + s.length ≤ 1000000000 →
    F_R2_Refused_p0 fu n (pre ++ s) false ((pre.length - c : Nat) : Int) (pre.length : Int) = some (-1) := by
  induction h with
  | nil c =>
    intro n pre hn _ _ _
    obtain ⟨n, rfl⟩ : ∃ m, n = m + 1 := ⟨n - 1, by simp at hn; omega⟩
    rw [F_R2_Refused_p0, F_R2_Refused_b0, bif_df (by simp)]
  | crlf c r _ ih =>
    intro n pre hn hc hp hb
    simp only [List.length_cons] at hn hb
    obtain ⟨n, rfl⟩ : ∃ m, n = m + 1 := ⟨n - 1, by omega⟩
    rw [F_R2_Refused_p0, F_R2_Refused_b0, bif_dt (by simp; omega), crlf_nat _ _ (by simp; omega) (by simp), Option.bind_some]
    have e1 : (pre ++ 13 :: 10 :: r)[pre.length]? = some 13 := by simp
    have e2 : (pre ++ 13 :: 10 :: r)[pre.length + 1]? = some 10 := by
      rw [List.getElem?_append_right (by omega)]; simp
    rw [e1, e2, bif_dt ⟨rfl, rfl⟩, nx_nat _ (by omega), nx_nat _ (by omega)]
    have := ih n (pre ++ [13, 10]) (by omega) (by omega) (by omega) (by simp; omega)
    simp only [List.length_append, List.length_cons, List.length_nil, Nat.zero_add, List.append_assoc, List.cons_append, List.nil_append, Nat.sub_zero] at this
    exact this
  | chr c x r hx hc _ ih =>
    intro n pre hn hc2 hp hb
    simp only [List.length_cons] at hn hb
    obtain ⟨n, rfl⟩ : ∃ m, n = m + 1 := ⟨n - 1, by omega⟩
    obtain ⟨h0, h13, h10, h127⟩ := hx
    rw [F_R2_Refused_p0, F_R2_Refused_b0, bif_dt (by simp; omega), crlf_nat _ _ (by simp; omega) (by simp), Option.bind_some]
    have e1 : (pre ++ x :: r)[pre.length]? = some x := by simp
    have hsub : w64 ((pre.length : Int) - ((pre.length - c : Nat) : Int)) = (c : Int) := by rw [w64_eq (by omega) (by omega)]; omega
    rw [e1, bif_df (fun q => h13 (Option.some.inj q.1)), idx_mid, Option.bind_some, bif_eq8, if_neg h13, Option.bind_some, bif_eq8, if_neg h10, Option.bind_some, bif_eq8, if_neg h0, Option.bind_some, bif_df h127, hsub, bif_df (by omega), nx_nat _ (by omega)]
    have := ih n (pre ++ [x]) (by omega) (by omega) (by simp; omega) (by simp; omega)
    simp only [List.length_append, List.length_cons, List.length_nil, Nat.zero_add, List.append_assoc, List.cons_append, List.nil_append] at this
    rw [show pre.length + 1 - (c + 1) = pre.length - c by omega] at this
    exact this
theorem okl_refd (s : List UInt8) (h : OkL 0 s) (hl : s.length ≤ 1000000000) : refd s false = -1 := by
  have h1 := okl_ref 0 h (s.length + 1) [] (by omega) (by omega) (by simp) (by simpa using hl)
  have h2 := (refd_spec 0 (s.length + 1) s false (by omega) (by omega)).1
  have h3 : F_R2_Refused_p0 0 (s.length + 1) s false 0 0 = some (-1) := h1
  rw [h3] at h2
  exact (Option.some.inj h2).symm
theorem ch6_prt : ∀ (n : Nat) (q : List Nat), q.length ≤ n → (∀ x ∈ q, x ≤ 1) → ∀ c ∈ ch6 q, prt c := by
  intro n
  induction n with
  | zero => intro q hl _ c hc; have : q = [] := List.eq_nil_of_length_eq_zero (by omega); subst this; cases hc
  | succ n ih =>
    intro q hl h1 x hx
    match q with
    | [] => cases hx
    | [_] => cases hx
    | [_, _] => cases hx
    | [_, _, _] => cases hx
    | [_, _, _, _] => cases hx
    | [_, _, _, _, _] => cases hx
    | a :: b :: c :: d :: e :: f :: q =>
      have hs : ∀ x ∈ [a, b, c, d, e, f], x ≤ 1 := fun x hx => h1 x (by simp at hx ⊢; omega)
      have hlt := sumN_lt [a, b, c, d, e, f] 0 hs
      simp only [List.length_cons, List.length_nil] at hlt
      obtain ⟨_, _, k3, k4⟩ := al_v64 _ (show sumN 0 [a, b, c, d, e, f] < 64 by omega)
      rw [ch6] at hx
      rcases List.mem_cons.1 hx with hx | hx
      · subst hx
        refine ⟨?_, ?_, ?_, ?_⟩
        · intro h; rw [h] at k3; exact absurd k3 (by decide)
        · intro h; rw [h] at k3; exact absurd k3 (by decide)
        · intro h; rw [h] at k3; exact absurd k3 (by decide)
        · intro h; rw [UInt8.lt_iff_toNat_lt] at h; rw [UInt8.le_iff_toNat_le] at k4
          have e1 : (127 : UInt8).toNat = 127 := rfl
          have e2 : (126 : UInt8).toNat = 126 := rfl
          omega
      · exact ih q (by simp only [List.length_cons] at hl; omega) (fun x hx => h1 x (by simp [hx])) x hx
theorem e64_prt (b : List UInt8) : ∀ c ∈ e64 b, prt c := by
  intro c hc
  rw [← e64_eq, pad4] at hc
  rcases List.mem_append.1 hc with hc | hc
  · exact ch6_prt _ _ (Nat.le_refl _) (pad6_one _ (bits_one b)) c hc
  · have := List.eq_of_mem_replicate hc
    subst this; exact ⟨by decide, by decide, by decide, by decide⟩
theorem okl_ln : ∀ (n : Nat) (s : List UInt8), s.length < n → (∀ c ∈ s, prt c) → OkL 0 (ln76 n s) := by
  intro n
  induction n with
  | zero => intro s h; exact absurd h (by omega)
  | succ n ih =>
    intro s h hs
    rw [ln76]
    by_cases c : 76 < s.length
    · rw [if_pos c, List.append_assoc]
      exact okl_app _ _ (fun x hx => hs x (List.mem_of_mem_take hx)) 0 (by simp; omega) (.crlf _ _ (ih _ (by simp; omega) (fun x hx => hs x (List.mem_of_mem_drop hx))))
    · rw [if_neg c]
      by_cases k : s = []
      · rw [if_pos k]; exact .nil 0
      · rw [if_neg k]
        exact okl_app _ _ hs 0 (by omega) (.crlf _ _ (.nil 0))
theorem okl_e64 (b : List UInt8) : OkL 0 (lines76 (e64 b)) := okl_ln _ _ (by omega) (e64_prt b)
set_option maxRecDepth 100000 in
theorem sgn_prt_all : ∀ n : _root_.Fin 256, ∀ e : Bool, (sgn (UInt8.ofNat n.val) e).all (fun x => x != 0 && x != 13 && x != 10 && !decide ((127 : UInt8) < x)) = true := by decide +kernel
theorem sgn_prt (c : UInt8) (e : Bool) : ∀ x ∈ sgn c e, prt x := by
  intro x hx
  have := List.all_eq_true.1 (byte_all (fun c => ∀ e, (sgn c e).all (fun x => x != 0 && x != 13 && x != 10 && !decide ((127 : UInt8) < x)) = true) sgn_prt_all c e) x hx
  simp only [Bool.and_eq_true, bne_iff_ne, ne_eq, Bool.not_eq_true', decide_eq_false_iff_not] at this
  exact ⟨this.1.1.1, this.1.1.2, this.1.2, this.2⟩
theorem okl_soft (c : Nat) (r : List UInt8) (h : c < 998) (hr : OkL 0 r) : OkL c (61 :: 13 :: 10 :: r) :=
  .chr c 61 _ ⟨by decide, by decide, by decide, by decide⟩ h (.crlf _ _ hr)
theorem okl_qe : ∀ (n : Nat) (s : List UInt8) (c : Nat), s.length ≤ n → c ≤ 80 → OkL c (qe c s) := by
  intro n
  induction n with
  | zero => intro s c h _; have : s = [] := List.eq_nil_of_length_eq_zero (by omega); subst this; exact .nil c
  | succ n ih =>
    intro s c h hc
    match s with
    | [] => exact .nil c
    | [x] =>
      have hl := sgn_len x true
      rw [qe]
      by_cases k : 76 < c + (sgn x true).length
      · rw [if_pos k]
        refine okl_soft c _ (by omega) ?_
        have := okl_app (sgn x true) [] (sgn_prt x true) 0 (by omega) (.nil _)
        rw [List.append_nil] at this
        exact this
      · rw [if_neg k]
        have := okl_app (sgn x true) [] (sgn_prt x true) c (by omega) (.nil _)
        rw [List.append_nil] at this
        exact this
    | x :: d :: r =>
      simp only [List.length_cons] at h
      have hl := sgn_len x (isL (d :: r))
      rw [qe]
      by_cases k : x = 13 ∧ d = 10
      · rw [if_pos k]
        exact .crlf c _ (ih r 0 (by omega) (by omega))
      · rw [if_neg k]
        have hm : (if isL (d :: r) = true then 76 else 75) ≤ 76 := by split <;> omega
        by_cases q : (if isL (d :: r) = true then 76 else 75) < c + (sgn x (isL (d :: r))).length
        · rw [if_pos q, List.append_assoc]
          exact okl_soft c _ (by omega) (okl_app _ _ (sgn_prt x _) 0 (by omega) (by
            rw [Nat.zero_add]; exact ih (d :: r) _ (by simp; omega) (by omega)))
        · rw [if_neg q]
          exact okl_app _ _ (sgn_prt x _) c (by omega) (ih (d :: r) _ (by simp; omega) (by omega))
end Go.Sym
/- quoted-printable, decoded: lines; what is encoded is decoded again. -/
namespace Go.Sym

/-- a hexadecimal digit -/
def hv (c : UInt8) : Option UInt8 := if 48 ≤ c ∧ c ≤ 57 then some (c - 48) else if 65 ≤ c ∧ c ≤ 70 then some (c - 65 + 10) else if 97 ≤ c ∧ c ≤ 102 then some (c - 97 + 10) else none
/-- two of them -/
def hx (a b : UInt8) : Option UInt8 := (hv a).bind fun x => (hv b).map fun y => 16 * x + y
/-- what the text of a line says -/
def dq : List UInt8 → List UInt8
  | [] => []
  | [c] => [c]
  | [c, d] => [c, d]
  | c :: a :: b :: r => if c = 61 then (match hx a b with | some x => x :: dq r | none => c :: dq (a :: b :: r)) else c :: dq (a :: b :: r)
theorem dq_cons (c : UInt8) (r : List UInt8) (h : c ≠ 61) : dq (c :: r) = c :: dq r := by
  match r with
  | [] => rfl
  | [_] => rfl
  | _ :: _ :: _ => rw [dq, if_neg h]
theorem dq_hex (a b x : UInt8) (r : List UInt8) (h : hx a b = some x) : dq (61 :: a :: b :: r) = x :: dq r := by
  rw [dq, if_pos rfl, h]
/-- a blank -/
def bl (c : UInt8) : Bool := c == 32 || c == 9
/-- a text without blanks at its end -/
def rtrim (l : List UInt8) : List UInt8 := (l.reverse.dropWhile bl).reverse
/-- a line's text and its end -/
def lnE (t : List UInt8) (nl : Bool) : List UInt8 × List UInt8 := if nl then (if t.getLast? = some 13 then (t.dropLast, [13, 10]) else (t, [10])) else (t, [])
/-- what a text and an end say -/
def lnT (u e : List UInt8) : List UInt8 := if u.getLast? = some 61 then dq u.dropLast else dq u ++ e
/-- what a line says -/
def lnO (t : List UInt8) (nl : Bool) : List UInt8 := lnT (rtrim (lnE t nl).1) (lnE t nl).2
/-- what lines say -/
def qm (acc : List UInt8) : List UInt8 → List UInt8
  | [] => lnO acc false
  | c :: r => if c = 10 then lnO acc true ++ qm [] r else qm (acc ++ [c]) r
theorem rtrim_id (l : List UInt8) (h : ∀ c, l.getLast? = some c → bl c = false) : rtrim l = l := by
  unfold rtrim
  cases e : l.reverse with
  | nil => have : l = [] := by simpa using e
           subst this; rfl
  | cons c t =>
    have hc : l.getLast? = some c := by rw [List.getLast?_eq_head?_reverse, e]; rfl
    have : List.dropWhile bl (c :: t) = c :: t := by simp [List.dropWhile, h c hc]
    rw [this, ← e, List.reverse_reverse]
theorem qm_app (u : List UInt8) : ∀ (acc r : List UInt8), (∀ x ∈ u, x ≠ 10) → qm acc (u ++ r) = qm (acc ++ u) r := by
  induction u with
  | nil => intro acc r _; simp
  | cons x u ih =>
    intro acc r h
    rw [List.cons_append, qm, if_neg (h x List.mem_cons_self), ih _ _ (fun y hy => h y (List.mem_cons_of_mem _ hy))]
    simp
/-- a text that is written so far -/
structure Un (acc out : List UInt8) (sp : Bool) : Prop where
  dec : ∀ rest, dq (acc ++ rest) = out ++ dq rest
  no : acc.getLast? ≠ some 61
  nb : sp = false → ∀ c, acc.getLast? = some c → bl c = false
theorem un_nil : Un [] [] false := ⟨fun _ => rfl, by simp, fun _ c h => by cases h⟩
theorem un_weak {acc out : List UInt8} {sp : Bool} (h : Un acc out sp) : Un acc out true := ⟨h.dec, h.no, fun q => by cases q⟩
/-- one byte's characters are as they should be -/
def sgnB (x : UInt8) (e : Bool) : Bool := match sgn x e with
  | [y] => y == x && y != 61 && (!e || !bl y)
  | [y, a, b] => y == 61 && hx a b == some x && b != 61 && !bl b
  | _ => false
set_option maxRecDepth 100000 in
theorem sgnB_all : ∀ n : _root_.Fin 256, ∀ e : Bool, sgnB (UInt8.ofNat n.val) e = true := by decide +kernel
theorem sgnB_eq (x : UInt8) (e : Bool) : sgnB x e = true := byte_all (fun c => ∀ e, sgnB c e = true) sgnB_all x e
theorem un_step {acc out : List UInt8} {sp : Bool} (h : Un acc out sp) (x : UInt8) (e : Bool) : Un (acc ++ sgn x e) (out ++ [x]) (!e) := by
  have hb := sgnB_eq x e
  unfold sgnB at hb
  split at hb
  · rename_i y hy
    simp only [Bool.and_eq_true, beq_iff_eq, bne_iff_ne, ne_eq, Bool.or_eq_true, Bool.not_eq_true'] at hb
    obtain ⟨⟨h1, h2⟩, h3⟩ := hb
    rw [hy]
    subst h1
    refine ⟨fun rest => ?_, by simpa using h2, fun q c hc => ?_⟩
    · rw [List.append_assoc, h.dec, List.singleton_append, dq_cons _ _ h2]; simp
    · have : y = c := by simpa using hc
      subst this
      rcases h3 with h3 | h3
      · rw [h3] at q; cases q
      · exact h3
  · rename_i y a b hy
    simp only [Bool.and_eq_true, beq_iff_eq, bne_iff_ne, ne_eq, Bool.not_eq_true'] at hb
    obtain ⟨⟨⟨h1, h2⟩, h3⟩, h4⟩ := hb
    rw [hy]
    subst h1
    refine ⟨fun rest => ?_, by simpa using h3, fun q c hc => ?_⟩
    · rw [List.append_assoc, h.dec, List.cons_append, List.cons_append, List.cons_append, List.nil_append, dq_hex _ _ _ _ h2]; simp
    · have : b = c := by simpa using hc
      subst this
      exact h4
  · cases hb
theorem sgn_no10 (x : UInt8) (e : Bool) : ∀ c ∈ sgn x e, c ≠ 10 := fun c hc => (sgn_prt x e c hc).2.2.1
theorem un_soft {acc out : List UInt8} {sp : Bool} (h : Un acc out sp) (r : List UInt8) : qm acc ([61, 13, 10] ++ r) = out ++ qm [] r := by
  rw [show ([61, 13, 10] : List UInt8) ++ r = [61, 13] ++ 10 :: r from rfl, qm_app _ _ _ (by decide), qm, if_pos rfl]
  have e1 : lnE (acc ++ [61, 13]) true = (acc ++ [61], [13, 10]) := by
    unfold lnE
    rw [if_pos rfl, if_pos (by simp)]
    rw [show acc ++ [61, 13] = (acc ++ [61]) ++ [13] by simp, List.dropLast_concat]
  have e2 : rtrim (acc ++ [61]) = acc ++ [61] := rtrim_id _ (fun c hc => by
    have : 61 = c := by simpa using hc
    subst this; rfl)
  have e3 : dq acc = out := by
    have := h.dec []
    simpa [dq] using this
  unfold lnO lnT
  rw [e1, e2, if_pos (by simp), List.dropLast_concat, e3]
theorem un_line {acc out : List UInt8} (h : Un acc out false) (r : List UInt8) : qm acc (13 :: 10 :: r) = out ++ [13, 10] ++ qm [] r := by
  rw [show (13 : UInt8) :: 10 :: r = [13] ++ 10 :: r from rfl, qm_app _ _ _ (by decide), qm, if_pos rfl]
  have e1 : lnE (acc ++ [13]) true = (acc, [13, 10]) := by
    unfold lnE
    rw [if_pos rfl, if_pos (by simp), List.dropLast_concat]
  have e3 : dq acc = out := by
    have := h.dec []
    simpa [dq] using this
  unfold lnO lnT
  rw [e1, rtrim_id _ (h.nb rfl), if_neg h.no, e3]
theorem un_end {acc out : List UInt8} (h : Un acc out false) : qm acc [] = out := by
  have e3 : dq acc = out := by
    have := h.dec []
    simpa [dq] using this
  unfold qm lnO lnT lnE
  simp only [Bool.false_eq_true, if_false]
  rw [rtrim_id _ (h.nb rfl), if_neg h.no, e3, List.append_nil]
theorem qm_qe : ∀ (n : Nat) (s acc out : List UInt8) (sp : Bool) (c : Nat), s.length ≤ n → Un acc out sp → (sp = true → s ≠ [] ∧ isL s = false) → qm acc (qe c s) = out ++ s := by
  intro n
  induction n with
  | zero =>
    intro s acc out sp c h hu hs
    have : s = [] := List.eq_nil_of_length_eq_zero (by omega)
    subst this
    cases sp with
    | true => exact absurd rfl (hs rfl).1
    | false => rw [qe, un_end hu]; simp
  | succ n ih =>
    intro s acc out sp c h hu hs
    match s with
    | [] =>
      cases sp with
      | true => exact absurd rfl (hs rfl).1
      | false => rw [qe, un_end hu]; simp
    | [x] =>
      rw [qe]
      by_cases k : 76 < c + (sgn x true).length
      · rw [if_pos k, un_soft hu]
        have := qm_app (sgn x true) [] [] (sgn_no10 x true)
        rw [List.append_nil, List.nil_append] at this
        rw [this]
        have u := un_step un_nil x true
        rw [List.nil_append, List.nil_append] at u
        rw [un_end u]
      · rw [if_neg k, List.nil_append]
        have := qm_app (sgn x true) acc [] (sgn_no10 x true)
        rw [List.append_nil] at this
        rw [this, un_end (un_step hu x true)]
    | x :: d :: r =>
      simp only [List.length_cons] at h
      rw [qe]
      by_cases k : x = 13 ∧ d = 10
      · rw [if_pos k]
        obtain ⟨rfl, rfl⟩ := k
        cases sp with
        | true => have := (hs rfl).2; simp [isL] at this
        | false =>
          rw [un_line hu, ih r [] [] false 0 (by omega) un_nil (fun q => by cases q)]
          simp
      · rw [if_neg k]
        have side : (!isL (d :: r)) = true → d :: r ≠ [] ∧ isL (d :: r) = false := fun q => ⟨by simp, by simpa using q⟩
        by_cases q : (if isL (d :: r) = true then 76 else 75) < c + (sgn x (isL (d :: r))).length
        · rw [if_pos q, List.append_assoc, un_soft hu, qm_app _ _ _ (sgn_no10 x _), List.nil_append]
          have u := un_step un_nil x (isL (d :: r))
          rw [List.nil_append, List.nil_append] at u
          rw [ih (d :: r) _ _ _ _ (by simp; omega) u side]
          simp
        · rw [if_neg q, qm_app _ _ _ (sgn_no10 x _), ih (d :: r) _ _ _ _ (by simp; omega) (un_step hu x (isL (d :: r))) side]
          simp
theorem qm_quoted (b : List UInt8) : qm [] (qe 0 b) = b := by
  rw [qm_qe b.length b [] [] false 0 (Nat.le_refl _) un_nil (fun q => by cases q), List.nil_append]
end Go.Sym
/- quoted.Lenient: digits, blanks. -/
namespace Go.Sym

set_option maxRecDepth 100000 in
theorem bhex_all : ∀ n : _root_.Fin 256, F_basic_Hex (UInt8.ofNat n.val) = some ((hv (UInt8.ofNat n.val)).getD 0, (hv (UInt8.ofNat n.val)).isSome) := by decide +kernel
theorem bhex_eq (c : UInt8) : F_basic_Hex c = some ((hv c).getD 0, (hv c).isSome) := byte_all (fun c => F_basic_Hex c = some ((hv c).getD 0, (hv c).isSome)) bhex_all c
def hvI (c : UInt8) : Int := match hv c with | some x => (x.toNat : Int) | none => -1
def hdig : List UInt8 := [48, 49, 50, 51, 52, 53, 54, 55, 56, 57, 65, 66, 67, 68, 69, 70]
def hexS (c : UInt8) : Nat → Nat → Int
  | 0, _ => -1
  | m + 1, k => if hdig.getD k 0 = c then (k : Int) else if (hdig.map lo).getD k 0 = c then (k : Int) else hexS c m (k + 1)
set_option maxRecDepth 100000 in
theorem hexS_all : ∀ n : _root_.Fin 256, hexS (UInt8.ofNat n.val) 16 0 = hvI (UInt8.ofNat n.val) := by decide +kernel
theorem rhex_go (fu : Nat) (hfu : 16 < fu) (c : UInt8) : ∀ (m k n : Nat), m + k = 16 → m < n → F_R1_Hex_p0 fu n c (k : Int) = some (hexS c m k) := by
  intro m
  induction m with
  | zero =>
    intro k n hk hn
    obtain ⟨n, rfl⟩ : ∃ j, n = j + 1 := ⟨n - 1, by omega⟩
    rw [F_R1_Hex_p0, F_R1_Hex_b0, bif_df (by omega)]; rfl
  | succ m ih =>
    intro k n hk hn
    obtain ⟨n, rfl⟩ : ∃ j, n = j + 1 := ⟨n - 1, by omega⟩
    have h1 : k < hdig.length := by show k < 16; omega
    have h2 : k < (hdig.map lo).length := by show k < 16; omega
    have i1 : idx hdig (k : Int) = some (hdig.getD k 0) := by rw [idx_nat _ _ h1]; exact congrArg some (List.getElem_eq_getD 0)
    have i2 : idx (hdig.map lo) (k : Int) = some ((hdig.map lo).getD k 0) := by rw [idx_nat _ _ h2]; exact congrArg some (List.getElem_eq_getD 0)
    rw [F_R1_Hex_p0, F_R1_Hex_b0, bif_dt (by omega)]
    rw [show ([48, 49, 50, 51, 52, 53, 54, 55, 56, 57, 65, 66, 67, 68, 69, 70] : List UInt8) = hdig from rfl]
    rw [i1, Option.bind_some, bif_eq8, hexS]
    by_cases q : hdig.getD k 0 = c
    · rw [if_pos q, if_pos q]
    · rw [if_neg q, if_neg q, r1lower_eq fu hdig (by show 16 < fu; omega) (by decide), Option.bind_some, i2, Option.bind_some, bif_eq8]
      by_cases q2 : (hdig.map lo).getD k 0 = c
      · rw [if_pos q2, if_pos q2]
      · rw [if_neg q2, if_neg q2, nx_nat _ (by omega), ih (k + 1) n (by omega) (by omega)]
theorem rhex_eq (fu : Nat) (hfu : 17 < fu) (c : UInt8) : F_R1_Hex fu c = some (hvI c) := by
  have := rhex_go fu (by omega) c 16 0 fu rfl (by omega)
  unfold F_R1_Hex
  rw [show (0 : Int) = ((0 : Nat) : Int) from rfl, this, byte_all (fun c => hexS c 16 0 = hvI c) hexS_all c]
set_option maxRecDepth 100000 in
theorem hv16_all : ∀ n : _root_.Fin 256, (hv (UInt8.ofNat n.val)).all (fun x => decide (x.toNat < 16)) = true := by decide +kernel
theorem hv16 (c x : UInt8) (h : hv c = some x) : x.toNat < 16 := by
  have := byte_all (fun c => (hv c).all (fun x => decide (x.toNat < 16)) = true) hv16_all c
  rw [h] at this
  simpa using this
set_option maxRecDepth 100000 in
theorem twoh_all : ∀ x y : _root_.Fin 16, (u8shl (UInt8.ofNat x.val) (min (4 : Int).toNat 8)) ||| UInt8.ofNat y.val = 16 * UInt8.ofNat x.val + UInt8.ofNat y.val ∧ toU8 (w64 ((w64 ((16 : Int) * ((UInt8.ofNat x.val).toNat : Int))) + ((UInt8.ofNat y.val).toNat : Int))) = 16 * UInt8.ofNat x.val + UInt8.ofNat y.val := by decide +kernel
theorem two_hex (x y : UInt8) (hx1 : x.toNat < 16) (hy1 : y.toNat < 16) : (u8shl x (min (4 : Int).toNat 8)) ||| y = 16 * x + y ∧ toU8 (w64 ((w64 ((16 : Int) * (x.toNat : Int))) + (y.toNat : Int))) = 16 * x + y := by
  have := twoh_all ⟨x.toNat, hx1⟩ ⟨y.toNat, hy1⟩
  simpa using this
/-- a byte written as two digits at the front -/
def pairR : List UInt8 → Option UInt8
  | a :: b :: _ => hx a b
  | _ => none
theorem dq_61 (r : List UInt8) : dq (61 :: r) = match pairR r with | some x => x :: dq (r.drop 2) | none => 61 :: dq r := by
  match r with
  | [] => rfl
  | [_] => rfl
  | a :: b :: t =>
    rw [dq, if_pos rfl]
    show _ = match hx a b with | some x => x :: dq t | none => 61 :: dq (a :: b :: t)
    cases hx a b <;> rfl
theorem pair_eq (r : List UInt8) : ∃ v, F_basic_Pair (r.take 2) = some (v, (pairR r).isSome) ∧ ∀ x, pairR r = some x → v = x := by
  match r with
  | [] => exact ⟨0, rfl, fun x h => by cases h⟩
  | [_] => exact ⟨0, rfl, fun x h => by cases h⟩
  | a :: b :: t =>
    have e : F_basic_Pair ((a :: b :: t).take 2) = some ((u8shl ((hv a).getD 0) (min (4 : Int).toNat 8)) ||| (hv b).getD 0, (hv a).isSome && (hv b).isSome) := by
      unfold F_basic_Pair
      rw [bif_df (by simp), show (a :: b :: t).take 2 = [a, b] from rfl, show idx [a, b] 0 = some a from rfl, show idx [a, b] 1 = some b from rfl]
      simp only [Option.bind_some, bhex_eq]
      cases (hv a).isSome <;> rfl
    rw [e, show pairR (a :: b :: t) = hx a b from rfl]
    unfold hx
    cases ha : hv a with
    | none => exact ⟨_, rfl, fun x h => by cases h⟩
    | some x =>
      cases hb : hv b with
      | none => exact ⟨_, rfl, fun x h => by cases h⟩
      | some y =>
        refine ⟨_, rfl, fun z h => ?_⟩
        have hz : 16 * x + y = z := by simpa using h
        rw [← hz]
        exact (two_hex x y (hv16 a x ha) (hv16 b y hb)).1
theorem take2 (pre : List UInt8) (c : UInt8) (r : List UInt8) (hb : pre.length + r.length < 1000000000) :
    List.take ((if (List.length (pre ++ c :: r) : Int) < w64 ((pre.length : Int) + (3 : Int)) then (List.length (pre ++ c :: r) : Int) else w64 ((pre.length : Int) + (3 : Int))).toNat - (((pre.length + 1 : Nat) : Int)).toNat) (List.drop (((pre.length + 1 : Nat) : Int)).toNat (pre ++ c :: r)) = r.take 2 := by
  rw [drop_mid1, w64_eq (by omega) (by omega)]
  have hl : ((pre ++ c :: r).length : Int) = (pre.length : Int) + 1 + (r.length : Int) := by simp; omega
  rw [hl]
  by_cases q : (pre.length : Int) + 1 + (r.length : Int) < (pre.length : Int) + 3
  · rw [if_pos q, List.take_of_length_le (by omega), List.take_of_length_le (by omega)]
  · rw [if_neg q, show ((pre.length : Int) + 3).toNat - (((pre.length + 1 : Nat) : Int)).toNat = 2 by omega]
theorem plain_go (fu n : Nat) : ∀ (pre suf out : List UInt8), suf.length < n → pre.length + suf.length < 1000000000 → out.length + suf.length ≤ 2000000000 →
    F_quoted_plain_p0 fu n (pre ++ suf) (pre.length : Int) out = some (out ++ dq suf) := by
  induction n with
  | zero => intro pre suf out h; exact absurd h (by omega)
  | succ n ih =>
    intro pre suf out h hb ho
    cases suf with
    | nil => rw [F_quoted_plain_p0, F_quoted_plain_b0, bif_df (by simp)]; simp [dq]
    | cons c r =>
      simp only [List.length_cons] at h hb ho
      have one : F_quoted_plain_p0 fu n (pre ++ c :: r) ((pre.length + 1 : Nat) : Int) (out ++ [c]) = some (out ++ c :: dq r) := by
        have := ih (pre ++ [c]) r (out ++ [c]) (by omega) (by simp; omega) (by simp; omega)
        simpa using this
      rw [F_quoted_plain_p0, F_quoted_plain_b0, bif_dt (by simp; omega), idx_mid]
      simp only [Option.bind_some]
      rw [nx_nat _ (by omega), bif_eq8]
      by_cases q : c = 61
      · subst q
        have hl : ((pre ++ 61 :: r).length : Int) = (pre.length : Int) + 1 + (r.length : Int) := by simp; omega
        have e3 : w64 ((pre.length : Int) + 3) = (pre.length : Int) + 3 := w64_eq (by omega) (by omega)
        rw [if_pos rfl, take2 _ _ _ (by omega), bif_dt (by rw [hl, e3]; split <;> omega)]
        obtain ⟨v, h1, h2⟩ := pair_eq r
        rw [h1, Option.bind_some, dq_61, bif_bt]
        cases hp : pairR r with
        | none =>
          rw [if_neg (by simp), bif_dt (by simp [rowMax]; omega)]
          exact one
        | some x =>
          have hv := h2 x hp
          subst hv
          match r, hp with
          | a :: b :: t, hp =>
            simp only [List.length_cons] at h hb ho
            have e2 : w64 (w64 ((pre.length : Int) + 2) + 1) = ((pre.length + 3 : Nat) : Int) := by rw [w64_eq (x := (pre.length : Int) + 2) (by omega) (by omega), w64_eq (by omega) (by omega)]; omega
            rw [if_pos (show (v, (some v).isSome).snd = true from rfl), bif_dt (by simp [rowMax]; omega), e2]
            have := ih (pre ++ [61, a, b]) t (out ++ [v]) (by omega) (by simp; omega) (by simp; omega)
            simpa using this
      · rw [if_neg q, bif_dt (by simp [rowMax]; omega), one, dq_cons _ _ q]
theorem plain_eq (fu : Nat) (s : List UInt8) (h : s.length < fu) (hb : s.length < 1000000000) : F_quoted_plain fu s = some (dq s) := by
  have := plain_go fu fu [] s [] h (by simpa using hb) (by simp; omega)
  rw [List.nil_append, List.nil_append] at this
  exact this
end Go.Sym
/- quoted.Lenient in plain words. -/
namespace Go.Sym

theorem w_last (n : Nat) (h : n < 1000000000) : w64 (((n + 1 : Nat) : Int) - 1) = (n : Int) := by rw [w64_eq (by omega) (by omega)]; omega
theorem idx_last {α : Type} (t : List α) (c : α) : idx (t ++ [c]) (t.length : Int) = some c := idx_mid t c []
theorem take_last {α : Type} (t : List α) (c : α) : List.take ((t.length : Nat) : Int).toNat (t ++ [c]) = t := by simp
theorem len_last {α : Type} (t : List α) (c : α) : ((t ++ [c]).length : Int) = ((t.length + 1 : Nat) : Int) := by simp
theorem rtrim_snoc (t : List UInt8) (c : UInt8) : rtrim (t ++ [c]) = if bl c then rtrim t else t ++ [c] := by
  unfold rtrim
  rw [List.reverse_append, List.reverse_singleton, List.singleton_append, List.dropWhile]
  cases bl c
  · simp
  · simp
def blSet : List Bool := ((List.replicate 256 false).set 32 true).set 9 true
theorem ascii_eq (n : Nat) : F_bytes_makeASCIISet (n + 3) [32, 9] = some (blSet, true) := by kernel_rfl
set_option maxRecDepth 100000 in
theorem contains_all : ∀ n : _root_.Fin 256, blSet[(UInt8.ofNat n.val).toNat]? = some (bl (UInt8.ofNat n.val)) := by decide +kernel
theorem contains_eq (c : UInt8) : F_bytes_asciiSet_contains c blSet = some (bl c, blSet) := by
  unfold F_bytes_asciiSet_contains
  rw [byte_all (fun c => blSet[c.toNat]? = some (bl c)) contains_all c, Option.bind_some]
theorem trimA_go (fu n : Nat) : ∀ (s : List UInt8), s.length < n → s.length < 1000000000 → F_bytes_trimRightASCII_p0 fu n s blSet = some (rtrim s, blSet) := by
  induction n with
  | zero => intro s h; exact absurd h (by omega)
  | succ n ih =>
    intro s h hb
    rw [F_bytes_trimRightASCII_p0, F_bytes_trimRightASCII_b0]
    rcases List.eq_nil_or_concat s with rfl | ⟨t, c, rfl⟩
    · rw [bif_df (by simp)]; rfl
    · rw [List.concat_eq_append] at *
      simp only [List.length_append, List.length_cons, List.length_nil] at h hb
      rw [len_last, bif_dt (by omega), w_last _ (by omega), idx_last, Option.bind_some, contains_eq, Option.bind_some, take_last, bif_dt (by omega), ih t (by omega) (by omega), rtrim_snoc]
      cases bl c <;> rfl
theorem trimR_eq (fu : Nat) (hfu : 3 ≤ fu) (s : List UInt8) (h : s.length < fu) (hb : s.length < 1000000000) : F_bytes_TrimRight fu s [32, 9] = some (rtrim s) := by
  unfold F_bytes_TrimRight
  rw [bif_eq]
  cases s with
  | nil => rfl
  | cons c s =>
    rw [if_neg (by simp; omega)]
    unfold F_bytes_TrimRight_p0
    rw [bif_f (by decide)]
    unfold F_bytes_TrimRight_p1
    rw [bif_f (by decide)]
    unfold F_bytes_TrimRight_p2
    rw [bif_f rfl]
    unfold F_bytes_TrimRight_p3
    obtain ⟨n, rfl⟩ : ∃ n, fu = n + 3 := ⟨fu - 3, by omega⟩
    rw [ascii_eq n, Option.bind_some, bif_t (by decide +kernel), bif_t rfl]
    unfold F_bytes_trimRightASCII
    rw [trimA_go _ _ _ h hb]; rfl
theorem hasSuf_eq (s : List UInt8) (k : UInt8) (hb : s.length < 1000000000) : F_bytes_HasSuffix s [k] = some (decide (s.getLast? = some k)) := by
  unfold F_bytes_HasSuffix F_bytes_Equal
  rcases List.eq_nil_or_concat s with rfl | ⟨t, c, rfl⟩
  · rw [bif_df (by simp)]; rfl
  · rw [List.concat_eq_append] at *
    simp only [List.length_append, List.length_cons, List.length_nil] at hb
    rw [len_last, show (([k] : List UInt8).length : Int) = 1 from rfl, w_last _ (by omega), bif_dt (by omega), bif_dt (by omega), Option.bind_some]
    have e : List.drop ((t.length : Nat) : Int).toNat (t ++ [c]) = [c] := drop_mid t [c]
    rw [e, List.getLast?_concat]
    congr 1
    rw [Bool.eq_iff_iff]; simp
theorem trimSuf_eq (s : List UInt8) (k : UInt8) (hb : s.length < 1000000000) : F_bytes_TrimSuffix s [k] = some (if s.getLast? = some k then s.dropLast else s) := by
  unfold F_bytes_TrimSuffix
  rw [hasSuf_eq s k hb, Option.bind_some, bif_d]
  by_cases q : s.getLast? = some k
  · rw [if_pos q, if_pos q]
    rcases List.eq_nil_or_concat s with rfl | ⟨t, c, rfl⟩
    · cases q
    · rw [List.concat_eq_append] at *
      simp only [List.length_append, List.length_cons, List.length_nil] at hb
      rw [len_last, show (([k] : List UInt8).length : Int) = 1 from rfl, w_last _ (by omega), bif_dt (by omega), take_last, List.dropLast_concat]
  · rw [if_neg q, if_neg q]
theorem iB_at (t r : List UInt8) (h : ∀ x ∈ t, x ≠ 10) : Lib.indexByte (t ++ 10 :: r) 10 = (t.length : Int) := by
  induction t with
  | nil => rfl
  | cons c t ih =>
    have hc := h c List.mem_cons_self
    rw [List.cons_append, Lib.indexByte, ih (fun x hx => h x (List.mem_cons_of_mem _ hx)), if_neg (by simpa using hc), if_neg (by simp <;> omega)]
    simp
theorem iB_no (t : List UInt8) (h : ∀ x ∈ t, x ≠ 10) : Lib.indexByte t 10 = -1 := by
  induction t with
  | nil => rfl
  | cons c t ih =>
    have hc := h c List.mem_cons_self
    rw [Lib.indexByte, ih (fun x hx => h x (List.mem_cons_of_mem _ hx)), if_neg (by simpa using hc), if_pos (by decide)]
theorem split10 : ∀ (s : List UInt8), (∃ t r, s = t ++ 10 :: r ∧ ∀ x ∈ t, x ≠ 10) ∨ ∀ x ∈ s, x ≠ 10
  | [] => .inr (fun _ h => by cases h)
  | c :: s => by
    by_cases k : c = 10
    · exact .inl ⟨[], s, by rw [k]; rfl, fun _ h => by cases h⟩
    · rcases split10 s with ⟨t, r, rfl, h⟩ | h
      · exact .inl ⟨c :: t, r, rfl, fun x hx => by
          rcases List.mem_cons.1 hx with rfl | hx
          · exact k
          · exact h x hx⟩
      · exact .inr (fun x hx => by
          rcases List.mem_cons.1 hx with rfl | hx
          · exact k
          · exact h x hx)
theorem qm_line (t r : List UInt8) (h : ∀ x ∈ t, x ≠ 10) : qm [] (t ++ 10 :: r) = lnO t true ++ qm [] r := by
  rw [qm_app t [] _ h, List.nil_append, qm, if_pos rfl]
theorem qm_last (t : List UInt8) (h : ∀ x ∈ t, x ≠ 10) : qm [] t = lnO t false := by
  have := qm_app t [] [] h
  rw [List.append_nil, List.nil_append] at this
  rw [this]; rfl
theorem dq_len : ∀ (n : Nat) (s : List UInt8), s.length ≤ n → (dq s).length ≤ s.length := by
  intro n
  induction n with
  | zero => intro s h; have : s = [] := List.eq_nil_of_length_eq_zero (by omega); subst this; exact Nat.le_refl _
  | succ n ih =>
    intro s h
    match s with
    | [] => exact Nat.le_refl _
    | c :: r =>
      simp only [List.length_cons] at h
      have h1 := ih r (by omega)
      by_cases k : c = 61
      · subst k
        rw [dq_61]
        cases pairR r with
        | none => simp only [List.length_cons]; omega
        | some x =>
          have h2 := ih (r.drop 2) (by simp; omega)
          simp only [List.length_cons, List.length_drop] at h2 ⊢; omega
      · rw [dq_cons _ _ k]; simp only [List.length_cons]; omega
theorem rtrim_len (s : List UInt8) : (rtrim s).length ≤ s.length := by
  unfold rtrim
  rw [List.length_reverse]
  have := (List.dropWhile_sublist bl (l := s.reverse)).length_le
  simpa using this
/-- behind the two ends of a line -/
theorem ln_p2 (fu : Nat) (hfu : 3 ≤ fu) (r0 : List UInt8 → (Int × Int) → List UInt8 → Option ((Int × Int) × List UInt8)) (u e r : List UInt8) (m16 : Int × Int) (out : List UInt8) (h : u.length < fu) (hb : u.length + e.length + r.length < 1000000000) (ho : out.length + u.length + e.length ≤ 2000000000) :
    F_quoted_Lenient_p2 fu r0 (u ++ e ++ r) ((u.length + e.length : Nat) : Int) u m16 out = r0 r m16 (out ++ lnT (rtrim u) e) := by
  unfold F_quoted_Lenient_p2
  have hl := rtrim_len u
  have p3 : ∀ v e', v.length ≤ u.length → e'.length ≤ e.length → F_quoted_Lenient_p3 fu r0 (u ++ e ++ r) ((u.length + e.length : Nat) : Int) v e' m16 out = r0 r m16 (out ++ (dq v ++ e')) := by
    intro v e' hv he
    have hd := dq_len _ v (Nat.le_refl _)
    unfold F_quoted_Lenient_p3
    rw [plain_eq fu v (by omega) (by omega), Option.bind_some, bif_dt (by simp [rowMax]; omega), bif_dt (by simp [rowMax]; omega), bif_dt (by simp; omega)]
    have ed : List.drop ((u.length + e.length : Nat) : Int).toNat (u ++ e ++ r) = r := by
      have := drop_mid (u ++ e) r
      rw [List.length_append] at this
      exact this
    rw [ed, List.append_assoc]
  rw [bif_dt (by simp; omega), trimR_eq fu hfu u h (by omega), Option.bind_some, bif_dt (by simp), hasSuf_eq _ _ (by omega), Option.bind_some, bif_d]
  unfold lnT
  by_cases q : (rtrim u).getLast? = some 61
  · rw [if_pos q, if_pos q]
    revert hl q
    rcases List.eq_nil_or_concat (rtrim u) with e0 | ⟨t, c, e0⟩
    · intro _ q; rw [e0] at q; cases q
    · rw [e0, List.concat_eq_append]
      intro hl q
      simp only [List.length_append, List.length_cons, List.length_nil] at hl
      rw [len_last, w_last _ (by omega), bif_dt (by omega), take_last, List.dropLast_concat, p3 t [] (by omega) (by simp), List.append_nil]
  · rw [if_neg q, if_neg q]
    have et : List.take (((u.length + e.length : Nat) : Int).toNat - (u.length : Int).toNat) (List.drop (u.length : Int).toNat (u ++ e ++ r)) = e := by
      rw [List.append_assoc, drop_mid, show ((u.length + e.length : Nat) : Int).toNat - (u.length : Int).toNat = e.length by omega]
      simp
    rw [et, p3 (rtrim u) e hl (Nat.le_refl _)]
theorem ln_true (fu : Nat) (hfu : 3 ≤ fu) (r0 : List UInt8 → (Int × Int) → List UInt8 → Option ((Int × Int) × List UInt8)) (t r : List UInt8) (m16 : Int × Int) (out : List UInt8) (h : t.length < fu) (hb : t.length + r.length + 2 < 1000000000) (ho : out.length + t.length + 2 ≤ 2000000000) :
    F_quoted_Lenient_p1 fu r0 (t ++ 10 :: r) ((t.length + 1 : Nat) : Int) m16 out = r0 r m16 (out ++ lnO t true) := by
  unfold F_quoted_Lenient_p1
  have et : List.take ((t.length + 1 : Nat) : Int).toNat (t ++ 10 :: r) = t ++ [10] := by
    rw [show t ++ 10 :: r = (t ++ [10]) ++ r by simp, show ((t.length + 1 : Nat) : Int).toNat = (t ++ [10]).length by simp, List.take_left]
  rw [bif_dt (by simp; omega), bif_dt (by simp), et, trimSuf_eq _ _ (by simp; omega), Option.bind_some, if_pos (by simp), List.dropLast_concat, bif_dt (by omega), bif_dt (by simp), trimSuf_eq _ _ (by omega), Option.bind_some]
  unfold lnO lnE
  rw [if_pos rfl]
  by_cases q : t.getLast? = some 13
  · rw [if_pos q, if_pos q]
    revert q h hb ho
    rcases List.eq_nil_or_concat t with rfl | ⟨u, c, rfl⟩
    · intro _ _ _ q; cases q
    · rw [List.concat_eq_append]
      intro h hb ho q
      have : c = 13 := by simpa using q
      subst this
      simp only [List.length_append, List.length_cons, List.length_nil] at h hb ho
      rw [List.dropLast_concat]
      have := ln_p2 fu hfu r0 u [13, 10] r m16 out (by omega) (by simp; omega) (by simp; omega)
      have e1 : (u ++ [(13 : UInt8)]).length + 1 = u.length + ([13, 10] : List UInt8).length := by simp
      have e2 : u ++ [(13 : UInt8)] ++ 10 :: r = u ++ [13, 10] ++ r := by simp
      rw [e1, e2]
      exact this
  · rw [if_neg q, if_neg q]
    have := ln_p2 fu hfu r0 t [10] r m16 out (by omega) (by simp; omega) (by simp; omega)
    simpa using this
theorem ln_false (fu : Nat) (hfu : 3 ≤ fu) (r0 : List UInt8 → (Int × Int) → List UInt8 → Option ((Int × Int) × List UInt8)) (t : List UInt8) (h10 : ∀ x ∈ t, x ≠ 10) (m16 : Int × Int) (out : List UInt8) (h : t.length < fu) (hb : t.length < 1000000000) (ho : out.length + t.length ≤ 2000000000) :
    F_quoted_Lenient_p1 fu r0 t (t.length : Int) m16 out = r0 [] m16 (out ++ lnO t false) := by
  unfold F_quoted_Lenient_p1
  have e1 : List.take (t.length : Int).toNat t = t := by simp
  have hn : t.getLast? ≠ some 10 := by
    intro q
    exact h10 10 (List.mem_of_getLast? q) rfl
  rw [bif_dt (by omega), bif_dt (by simp), e1, trimSuf_eq _ _ hb, Option.bind_some, if_neg hn, bif_df (by omega)]
  have := ln_p2 fu hfu r0 t [] [] m16 out h (by simp; omega) (by simp; omega)
  simpa [lnO, lnE] using this
theorem lnO_len (t : List UInt8) (nl : Bool) : (lnO t nl).length ≤ t.length + nl.toNat := by
  unfold lnO lnT lnE
  have key : ∀ u e : List UInt8, (if (rtrim u).getLast? = some 61 then dq (rtrim u).dropLast else dq (rtrim u) ++ e).length ≤ u.length + e.length := by
    intro u e
    have h1 := rtrim_len u
    split
    · have := dq_len _ (rtrim u).dropLast (Nat.le_refl _)
      rw [List.length_dropLast] at this; omega
    · have := dq_len _ (rtrim u) (Nat.le_refl _)
      rw [List.length_append]; omega
  refine Nat.le_trans (key _ _) ?_
  cases nl with
  | false => simp
  | true =>
    rw [if_pos rfl]
    by_cases q : t.getLast? = some 13
    · rw [if_pos q]
      have : 0 < t.length := by
        cases t with
        | nil => cases q
        | cons _ _ => simp
      simp; omega
    · rw [if_neg q]; simp
theorem qlen_go (fu n : Nat) (hfu : 3 ≤ fu) (m16 : Int × Int) : ∀ (s out : List UInt8), s.length < n → s.length < fu → s.length < 100000000 → out.length + s.length ≤ 1000000000 →
    F_quoted_Lenient_p0 fu n s m16 out = some ((0, 0), out ++ qm [] s) := by
  induction n with
  | zero => intro s out h; exact absurd h (by omega)
  | succ n ih =>
    intro s out h hf hb ho
    rw [F_quoted_Lenient_p0, F_quoted_Lenient_b0]
    rcases split10 s with ⟨t, r, rfl, h10⟩ | h10
    · simp only [List.length_append, List.length_cons] at h hf hb ho
      have hlen := lnO_len t true
      simp only [Bool.toNat_true] at hlen
      rw [bif_dt (by simp; omega), show F_bytes_IndexByte (t ++ 10 :: r) 10 = some (Lib.indexByte (t ++ 10 :: r) 10) from rfl, Option.bind_some, iB_at t r h10, nx_nat _ (by omega), bif_eq, if_neg (by omega)]
      rw [ln_true fu hfu _ t r m16 out (by omega) (by omega) (by omega), ih r _ (by omega) (by omega) (by omega) (by rw [List.length_append]; omega), qm_line t r h10, List.append_assoc]
    · cases s with
      | nil => rw [bif_df (by simp)]; simp [F_basic_None, show qm [] [] = [] from rfl]
      | cons c s =>
        have hlen := lnO_len (c :: s) false
        simp only [Bool.toNat_false] at hlen
        rw [bif_dt (by simp <;> omega), show F_bytes_IndexByte (c :: s) 10 = some (Lib.indexByte (c :: s) 10) from rfl, Option.bind_some, iB_no _ h10, bif_eq, if_pos (by decide)]
        rw [ln_false fu hfu _ (c :: s) h10 m16 out hf (by omega) (by omega)]
        have hn : 0 < n := by simp only [List.length_cons] at h; omega
        rw [ih [] _ (by simpa using hn) (by simp; omega) (by simp) (by rw [List.length_append]; simp only [List.length_nil]; omega), qm_last _ h10]
        have : qm [] [] = [] := rfl
        rw [this, List.append_nil]
theorem qlen_eq (fu : Nat) (s : List UInt8) (hf : s.length + 3 < fu) (hb : s.length ≤ 48000) : F_quoted_Lenient fu s = some ((0, 0), qm [] s) := by
  unfold F_quoted_Lenient
  rw [bif_df (by omega)]
  have := qlen_go fu fu (by omega) (0, 0) s [] (by omega) (by omega) (by omega) (by simp; omega)
  rw [List.nil_append] at this
  exact this
end Go.Sym
