/- What the claim rests on, part 4: gathered texts. -/
import Derived.RangeFuncRecord
import Derived.Lib.ItoaNum
import Derived.Lib.Index
import Derived.Lib.Replace
import Derived.Lib.Repeat
import Derived.Lib.BytesEntry
import Derived.Laws.Externs
import Derived.Test.YtfmacibdajfkmaaGreatDoorSyA3
/- A region that draws its order and holds operations that change own memory, with what is emitted. -/
namespace Go.Sym
open Go.RowKit
variable [LC]

mutual
/-- the boxes that a value names -/
def avBoxes : AV → List Nat
  | .ptr b _ => [b]
  | .own k => [k]
  | .oel k _ _ _ => [k]
  | .osl k _ _ => [k]
  | .iface _ x => avBoxes x
  | .agg xs => avsBoxes xs
  | .fn _ _ xs => avsBoxes xs
  | _ => []
def avsBoxes : List AV → List Nat
  | [] => []
  | x :: xs => avBoxes x ++ avsBoxes xs
end
/-- and those that are named within them -/
def within (s : St) : List Nat → List Nat
  | [] => []
  | k :: ks => (match look s.hp k with
    | some (.cells cs _) => avsBoxes cs
    | _ => []) ++ within s ks
def range16 (lo : Nat) : List Nat := [lo, lo + 1, lo + 2, lo + 3, lo + 4, lo + 5, lo + 6, lo + 7, lo + 8, lo + 9, lo + 10, lo + 11, lo + 12, lo + 13, lo + 14, lo + 15]
/-- boxes that an operand of the region may stand for -/
def boxOf (s : St) (l : List Oper) : Nat → Operand → List Nat
  | 0, _ => []
  | n + 1, x => match x with
    | .tmp t => match l.find? (fun o => match o.dst with | some d => Nat.beq d t | none => false) with
      | some o => match o.op with
        | .move y => boxOf s l n y
        | .assign y => boxOf s l n y
        | .fieldAddr _ y _ => boxOf s l n y
        | .indexAddr _ y _ => boxOf s l n y
        | .load _ y => within s (boxOf s l n y)
        | .alloc _ => [s.nx + 32 * t]
        | .box _ _ => [s.nx + 32 * t]
        | .buildSlice _ _ _ => [s.nx + 32 * t]
        | .call { callee := .builtin .append, args := _, argTypes := _ } => [s.nx + 32 * t]
        | .call _ => range16 (s.nx + 32 * t)
        | _ => []
      | none => match s.ev x with
        | some v => avBoxes v
        | none => []
    | x => match s.ev x with
      | some v => avBoxes v
      | none => []
def boxesOf (s : St) (l : List Oper) : List Operand → List Nat
  | [] => []
  | x :: xs => boxOf s l 8 x ++ boxesOf s l xs
/-- a function that sees own memory -/
def memEnt (f : FuncId) : List Ent → Bool
  | [] => false
  | e :: es => (keyIs f e.key && !(match e.hp with | [] => true | _ => false)) || memEnt f es
/-- the boxes that an operation may change -/
def candK (tb : Tb) (s : St) (l : List Oper) (o : Oper) : List Nat := match o.guard with
  | some _ => []
  | none => match o.op with
    | .store _ x _ => boxOf s l 8 x
    | .call { callee := .builtin .append, args, argTypes := _ } => match args.toList with
      | x :: _ => boxOf s l 8 x
      | [] => []
    | .call { callee := .value g, args, argTypes := _ } => match s.ev g with
      | some (.fn (.func f) [] cap) => bif memEnt f tb.ents then (boxesOf s l args.toList ++ avsBoxes cap) ++ within s (boxesOf s l args.toList ++ avsBoxes cap) else []
      | _ => []
    | _ => []
/-- own slices within a value of the region that a callee is handed -/
def nestO (s : St) (l : List Oper) : Nat → Operand → List Nat
  | 0, _ => []
  | n + 1, x => match x with
    | .tmp t => match l.find? (fun o => match o.dst with | some d => Nat.beq d t | none => false) with
      | some o => match o.op with
        | .move y => nestO s l n y
        | .assign y => nestO s l n y
        | .load _ y => within s (boxOf s l n y)
        | .build _ parts => boxesOf s l (parts.toList.map (·.2))
        | _ => []
      | none => match s.ev x with
        | some (.agg xs) => ownsOfs xs
        | _ => []
    | _ => []
def nestOs (s : St) (l : List Oper) : List Operand → List Nat
  | [] => []
  | x :: xs => nestO s l 8 x ++ nestOs s l xs
/-- own slices that are data to the callees of a drawn region -/
def preK (s : St) (all : List Oper) : List Oper → List Nat
  | [] => []
  | o :: l => (match o.op with
    | .call { callee := .value g, args, argTypes := _ } => match s.ev g with
      | some (.fn (.func _) [] _) => nestOs s all args.toList
      | _ => []
    | _ => []) ++ preK s all l
def hdPreds : List Oper → List HR → List (List Nat)
  | [], _ => []
  | o :: l, Rs => match predsOf Rs o.after.toList with
    | some p => p :: hdPreds l (Rs ++ [⟨0, .undef, [], p⟩])
    | none => []
def certs (tb : Tb) (s : St) (all : List Oper) : List Oper → List (List Nat) → Nat → List (Nat × List Nat × List Nat)
  | o :: l, p :: ps, i => match candK tb s all o with
    | [] => certs tb s all l ps (i + 1)
    | K => (i, K, p) :: certs tb s all l ps (i + 1)
  | _, _, _ => []
def findC (i : Nat) : List (Nat × List Nat × List Nat) → Option (List Nat × List Nat)
  | [] => none
  | (m, r) :: l => bif Nat.beq m i then some r else findC i l
def subN (l pred : List Nat) : Bool := match l with
  | [] => true
  | x :: xs => memN pred x && subN xs pred
def subM (pred : List Nat) : List (Nat × Md) → Bool
  | [] => true
  | (m, _) :: r => memN pred m && subM pred r
/-- a box of K that is handed to the names: an old one, or one that a predecessor has made -/
def madeBy (s : St) (Rs : List HR) (k : Nat) : List Nat → Bool
  | [] => false
  | c :: cs => (match Rs[c]? with
    | some r => Nat.ble (s.nx + 32 * r.dst) k && Nat.blt k (s.nx + 32 * r.dst + 32)
    | none => false) || madeBy s Rs k cs
def mdNamesX (s : St) (Rs : List HR) (pred : List Nat) (dst : Nat) (K : List Nat) : List (Nat × Box) → Bool
  | [] => true
  | e :: r => ((Nat.ble (s.nx + 32 * dst) e.1 && Nat.blt e.1 (s.nx + 32 * dst + 32)) || (memN K e.1 && ((match look s.hp e.1 with | some _ => true | none => false) || madeBy s Rs e.1 pred))) && mdNamesX s Rs pred dst K r
def mdSlotsX (dst : Nat) : List (Nat × AV) → Bool
  | [] => true
  | e :: r => Nat.beq e.1 dst && mdSlotsX dst r
def noMd (Ms : List (Nat × Md)) (j : Nat) : Bool := match look Ms j with
  | some _ => false
  | none => true
def dropMs (Ms : List (Nat × Md)) : List Nat → List Nat
  | [] => []
  | x :: xs => bif noMd Ms x then x :: dropMs Ms xs else dropMs Ms xs
def dstX (s : St) (i : Nat) : Option Tmp → Nat
  | some t => t
  | none => s.n + i
def dstLt (s : St) : Option Tmp → Bool
  | some t => Nat.blt t s.n
  | none => true
def headX {R : Type} (P : Program) (tb : Tb) (ops : Array Oper) (s : St) (Cs : List (Nat × List Nat × List Nat)) (fin : List (Nat × Md) → List HR → List (Nat × Bool) → Option R) : List Oper → Nat → List HR → List (Nat × Bool) → List (Nat × Md) → Option R
  | [], _, Rs, kn, Ms => fin Ms Rs kn
  | o :: l, i, Rs, kn, Ms => match predsOf Rs o.after.toList with
    | none => none
    | some pred => bif dstLt s o.dst && noRange (s.nx + 32 * dstX s i o.dst) s.hp && freshDst (dstX s i o.dst) Rs && readsFine pred (readsOf ops o) Rs 0 && writesFine ops (dstX s i o.dst) pred i then
        match findC i Cs, o.guard with
        | some (K, Pm), none => match areq P tb ((addSelX Ms pred Rs 0 s).hide (hidK Cs pred i)) o.op with
          | some q => q.K fun d => match aadd P ((addSelX Ms pred Rs 0 s).hide (hidK Cs pred i)) d o, o.dst with
            | some (_, v, new), some tt => headX P tb ops s Cs fin l (i + 1) (Rs ++ [⟨tt, v, new, pred⟩]) kn Ms
            | _, _ => match modOp P ((addSelX Ms pred Rs 0 s).hide (hidK Cs pred i)) d o with
              | some (_, md) => bif mdNamesX s Rs pred (dstX s i o.dst) K md.h && mdSlotsX (dstX s i o.dst) md.f && subN Pm pred && subM pred Ms then
                  headX P tb ops s Cs fin l (i + 1) (Rs ++ [⟨dstX s i o.dst, .undef, [], pred⟩]) kn ((i, md) :: Ms) else none
              | none => none
          | none => none
        | _, _ => match o.dst with
          | some d => opH P tb ops ((addSelX Ms pred Rs 0 s).hide (hidK Cs pred i)) (dropMs Ms pred) Rs kn o fun v new kn' => headX P tb ops s Cs fin l (i + 1) (Rs ++ [⟨d, v, new, pred⟩]) kn' Ms
          | none => none
      else none
def drawC {R : Type} (P : Program) (tb : Tb) (ops : Array Oper) (s : St) (Cs : List (Nat × List Nat × List Nat)) (K : St → Option R) : Option R :=
  bif edgesFine ops.toList 0 && tailFine ops (headLen ops) && Nat.ble (headLen ops) ops.toList.length then
    headX P tb ops s Cs (fun Ms Rs kn => opsR P tb ops (ops.toList.drop (headLen ops)) (knows Rs kn kn (addSelX Ms (List.range (headLen ops)) Rs 0 s)) K) (ops.toList.take (headLen ops)) 0 [] [] []
  else none
def drawY {R : Type} (P : Program) (tb : Tb) (ops : Array Oper) (s : St) (K : St → Option R) : Option R :=
  match certs tb s (ops.toList.take (headLen ops)) (ops.toList.take (headLen ops)) (hdPreds (ops.toList.take (headLen ops)) []) 0 with
  | [] => drawR P tb ops s K
  | Cs => drawC P tb ops s Cs K
def drawX {R : Type} (P : Program) (tb : Tb) (ops : Array Oper) (s : St) (K : St → Option R) : Option R :=
  drawY P tb ops (frzL (preK s (ops.toList.take (headLen ops)) (ops.toList.take (headLen ops))) s) K

section
variable {P : Program} {w₀ : World} {G₀ : Gh} {hp₀ : List (Nat × Box)} {G : Gh} {a : Act} {w : World} {R : Type} {tb : Tb} {s : St}
omit [LC] in
theorem noMd_iff {Ms : List (Nat × Md)} {j : Nat} : noMd Ms j = true ↔ look Ms j = none := by
  unfold noMd
  cases look Ms j <;> simp
omit [LC] in
theorem mem_dropMs {Ms : List (Nat × Md)} {j : Nat} : ∀ {l : List Nat}, j ∈ dropMs Ms l ↔ j ∈ l ∧ look Ms j = none
  | [] => by simp [dropMs]
  | x :: xs => by
    simp only [dropMs]
    cases hb : noMd Ms x
    · simp only [cond_false, mem_dropMs (l := xs), List.mem_cons]
      refine ⟨fun h => ⟨.inr h.1, h.2⟩, fun ⟨h1, h2⟩ => ⟨h1.resolve_left (fun e => ?_), h2⟩⟩
      subst e
      rw [noMd_iff.2 h2] at hb; cases hb
    · have := noMd_iff.1 hb
      simp only [cond_true, List.mem_cons, mem_dropMs (l := xs)]
      refine ⟨fun h => ?_, fun ⟨h1, h2⟩ => ?_⟩
      · rcases h with rfl | h
        · exact ⟨.inl rfl, this⟩
        · exact ⟨.inr h.1, h.2⟩
      · rcases h1 with h1 | h1
        · exact .inl h1
        · exact .inr ⟨h1, h2⟩
omit [LC] in
theorem findC_mem {i : Nat} {r : List Nat × List Nat} : ∀ {l : List (Nat × List Nat × List Nat)}, findC i l = some r → (i, r) ∈ l
  | [], h => by cases h
  | (m, r') :: l, h => by
    simp only [findC] at h
    cases hb : Nat.beq m i <;> rw [hb] at h <;> simp only [cond_true, cond_false] at h
    · exact List.mem_cons_of_mem _ (findC_mem h)
    · simp only [Option.some.injEq] at h; subst h
      rw [Nat.eq_of_beq_eq_true hb]; exact List.mem_cons_self
omit [LC] in
theorem subN_iff {pred : List Nat} : ∀ {l : List Nat}, subN l pred = true → ∀ j ∈ l, j ∈ pred
  | [], _, j, h => by cases h
  | x :: xs, h, j, hj => by
    simp only [subN, Bool.and_eq_true] at h
    rcases List.mem_cons.1 hj with rfl | hj
    · exact memN_iff.1 h.1
    · exact subN_iff h.2 j hj
omit [LC] in
theorem subM_iff {pred : List Nat} : ∀ {Ms : List (Nat × Md)}, subM pred Ms = true → ∀ j, look Ms j ≠ none → j ∈ pred
  | [], _, j, h => absurd rfl h
  | (m, md) :: r, h, j, hj => by
    simp only [subM, Bool.and_eq_true] at h
    simp only [look] at hj
    cases hb : Nat.beq m j <;> rw [hb] at hj <;> simp only [cond_true, cond_false] at hj
    · exact subM_iff h.2 j hj
    · rw [← Nat.eq_of_beq_eq_true hb]; exact memN_iff.1 h.1
omit [LC] in
theorem madeBy_iff {Rs : List HR} {k : Nat} : ∀ {cs : List Nat}, madeBy s Rs k cs = true → ∃ c rc, c ∈ cs ∧ Rs[c]? = some rc ∧ in16 (s.nx + 32 * rc.dst) k
  | [], h => by cases h
  | c :: cs, h => by
    simp only [madeBy, Bool.or_eq_true] at h
    rcases h with h | h
    · split at h
      · rename_i r hr
        simp only [Bool.and_eq_true, Nat.blt_eq] at h
        exact ⟨c, r, List.mem_cons_self, hr, Nat.le_of_ble_eq_true h.1, h.2⟩
      · cases h
    · obtain ⟨c', rc, h1, h2⟩ := madeBy_iff h
      exact ⟨c', rc, List.mem_cons_of_mem _ h1, h2⟩
omit [LC] in
theorem mdNamesX_iff {Rs : List HR} {pred : List Nat} {dst : Nat} {K : List Nat} : ∀ {l : List (Nat × Box)}, mdNamesX s Rs pred dst K l = true → ∀ e ∈ l, in16 (s.nx + 32 * dst) e.1 ∨ (e.1 ∈ K ∧ ((∃ b, look s.hp e.1 = some b) ∨ ∃ c rc, c ∈ pred ∧ Rs[c]? = some rc ∧ in16 (s.nx + 32 * rc.dst) e.1))
  | [], _, e, he => by cases he
  | x :: r, h, e, he => by
    simp only [mdNamesX, Bool.and_eq_true, Bool.or_eq_true] at h
    rcases List.mem_cons.1 he with rfl | he
    · rcases h.1 with h1 | ⟨h1, h2⟩
      · simp only [Nat.blt_eq] at h1
        exact .inl ⟨Nat.le_of_ble_eq_true h1.1, h1.2⟩
      · refine .inr ⟨memN_iff.1 h1, ?_⟩
        rcases h2 with h2 | h2
        · cases hq : look s.hp e.1 with
          | none => rw [hq] at h2; cases h2
          | some b => exact .inl ⟨b, rfl⟩
        · exact .inr (madeBy_iff h2)
    · exact mdNamesX_iff h.2 e he
omit [LC] in
theorem mdSlotsX_iff {dst : Nat} : ∀ {l : List (Nat × AV)}, mdSlotsX dst l = true → ∀ e ∈ l, e.1 = dst
  | [], _, e, he => by cases he
  | x :: r, h, e, he => by
    simp only [mdSlotsX, Bool.and_eq_true] at h
    rcases List.mem_cons.1 he with rfl | he
    · exact Nat.eq_of_beq_eq_true h.1
    · exact mdSlotsX_iff h.2 e he
omit [LC] in
theorem addSelX_congr {Ms Ms' : List (Nat × Md)} {sel : List Nat} : ∀ (rs : List HR) (j : Nat) (t : St), (∀ k, k < j + rs.length → look Ms k = look Ms' k) → addSelX Ms sel rs j t = addSelX Ms' sel rs j t
  | [], _, _, _ => rfl
  | r :: rs, j, t, h => by
    simp only [addSelX]
    rw [h j (by simp), addSelX_congr rs (j + 1) _ (fun k hk => h k (by simp; omega))]
omit [LC] in
theorem addSelX_out {Ms : List (Nat × Md)} {sel : List Nat} {d : Nat} : ∀ {rs : List HR} {j : Nat} {t : St}, (∀ (k : Nat) (r : HR), rs[k]? = some r → (look Ms (j + k) = none → r.dst ≠ d) ∧ ∀ md, look Ms (j + k) = some md → ∀ e ∈ md.f, e.1 ≠ d) → look (addSelX Ms sel rs j t).fr d = look t.fr d
  | [], _, _, _ => rfl
  | r :: rs, j, t, h => by
    simp only [addSelX]
    rw [addSelX_out (fun k r' hr' => by have := h (k + 1) r' (by simpa using hr'); rwa [show j + (k + 1) = j + 1 + k by omega] at this)]
    cases memN sel j
    · rfl
    · simp only [cond_true]
      have h0 := h 0 r (by simp)
      rw [Nat.add_zero] at h0
      cases hm : look Ms j with
      | none =>
        simp only [St.addR, look]
        cases hq : Nat.beq r.dst d
        · rfl
        · exact absurd (Nat.eq_of_beq_eq_true hq) (h0.1 hm)
      | some md =>
        simp only [St.addM]
        rw [lookP_append]
        cases hq : look md.f d with
        | none => rfl
        | some v =>
          obtain ⟨e, he, hx⟩ := lookP_mem (l := md.f) (m := d) (by rw [hq]; simp)
          exact absurd hx (h0.2 md hm e he)
omit [LC] in
theorem addSelX_in {Ms : List (Nat × Md)} {sel : List Nat} : ∀ {rs : List HR} {j k : Nat} {t : St} {r : HR}, rs[k]? = some r → memN sel (j + k) = true → look Ms (j + k) = none →
    (∀ (k' : Nat) (r' : HR), k < k' → rs[k']? = some r' → r'.dst ≠ r.dst ∧ ∀ md, look Ms (j + k') = some md → ∀ e ∈ md.f, e.1 ≠ r.dst) → look (addSelX Ms sel rs j t).fr r.dst = some r.v
  | [], _, _, _, _, h, _, _, _ => by simp at h
  | r0 :: rs, j, 0, t, r, h, hm, hn, hd => by
    simp only [List.getElem?_cons_zero, Option.some.injEq] at h; subst h
    simp only [addSelX]
    rw [addSelX_out (fun k r' hr' => by
      have := hd (k + 1) r' (by omega) (by simpa using hr')
      rw [show j + (k + 1) = j + 1 + k by omega] at this
      exact ⟨fun _ => this.1, this.2⟩)]
    rw [Nat.add_zero] at hm hn
    rw [hm, hn]
    simp [St.addR, look]
  | r0 :: rs, j, k + 1, t, r, h, hm, hn, hd => by
    simp only [addSelX]
    rw [show j + (k + 1) = j + 1 + k by omega] at hm hn
    exact addSelX_in (k := k) (by simpa using h) hm hn (fun k' r' hk hr' => by
      have := hd (k' + 1) r' (by omega) (by simpa using hr')
      rwa [show j + (k' + 1) = j + 1 + k' by omega] at this)
/-- what is known when the first i operations have been reckoned -/
structure HX (P : Program) (ops : Array Oper) (s : St) (Cs : List (Nat × List Nat × List Nat)) (i : Nat) (Rs : List HR) (Ms : List (Nat × Md)) : Prop where
  len : Rs.length = i
  all : ∀ j o, j < i → ops[j]? = some o → ∃ r, OkX ops s Rs Ms Cs j o r ∧ StX P ops s Rs Ms Cs j o r
  lt : ∀ j, look Ms j ≠ none → j < i
  und : ∀ (j : Nat) (r : HR) (md : Md), Rs[j]? = some r → look Ms j = some md → r.v = .undef
theorem HX.more {ops : Array Oper} {Cs : List (Nat × List Nat × List Nat)} {i : Nat} {Rs : List HR} {Ms Ms' : List (Nat × Md)} {r0 : HR} (hI : HX P ops s Cs i Rs Ms) (hM : ∀ j, j < i → look Ms' j = look Ms j) {j : Nat} {o : Oper} {r : HR} (hj : j < i)
    (ok : OkX ops s Rs Ms Cs j o r) (st : StX P ops s Rs Ms Cs j o r) : OkX ops s (Rs ++ [r0]) Ms' Cs j o r ∧ StX P ops s (Rs ++ [r0]) Ms' Cs j o r := by
  have hl := hI.len
  have hg : ∀ k, k < i → (Rs ++ [r0])[k]? = Rs[k]? := fun k hk => List.getElem?_append_left (by omega)
  have ht : (Rs ++ [r0]).take j = Rs.take j := by rw [List.take_append_of_le_length (by omega)]
  have hf : efF (Rs ++ [r0]) Ms' j = efF Rs Ms j := by unfold efF; rw [hM j hj, hg j hj]
  have hh : efH (Rs ++ [r0]) Ms' j = efH Rs Ms j := by unfold efH; rw [hM j hj, hg j hj]
  have hs : seenX s (Rs ++ [r0]) Ms' Cs j r = seenX s Rs Ms Cs j r := by
    unfold seenX
    rw [ht, addSelX_congr (Rs.take j) 0 s (fun k hk => hM k (by simp at hk; omega))]
  refine ⟨⟨by rw [hg j hj]; exact ok.get, ok.room, by rw [ht]; exact ok.pred, by rw [ht]; exact ok.fresh, by rw [ht]; exact ok.reads, ok.writes, by rw [hf]; exact ok.f, fun e he => ?_⟩, ?_⟩
  · rw [hh] at he
    rcases ok.h e he with h | ⟨h1, h2, h3, h4⟩
    · exact .inl h
    · refine .inr ⟨by rw [hM j hj]; exact h1, h2, ?_, fun k hk hkm => h4 k hk (by rw [← hM k (by omega)]; exact hkm)⟩
      rcases h3 with h3 | ⟨c, rc, c1, c2, c3⟩
      · exact .inl h3
      · have : c < i := by have := (List.getElem?_eq_some_iff.1 c2).1; omega
        exact .inr ⟨c, rc, c1, by rw [hg c this]; exact c2, c3⟩
  · rcases st with ⟨s1, s2, s3, s4⟩ | ⟨ps, d, md, s1, s2, s3, s4, s5⟩
    · exact .inl ⟨by rw [hM j hj]; exact s1, s2, s3, by rw [hs]; exact s4⟩
    · exact .inr ⟨ps, d, md, by rw [hM j hj]; exact s1, s2, s3, by rw [hs]; exact s4, s5⟩
theorem HX.dis {ops : Array Oper} {Cs : List (Nat × List Nat × List Nat)} {i : Nat} {Rs : List HR} {Ms : List (Nat × Md)} (hi : i ≤ ops.size) (hI : HX P ops s Cs i Rs Ms) : ∀ (k k' : Nat) (r r' : HR), k < k' → Rs[k]? = some r → Rs[k']? = some r' → r'.dst ≠ r.dst ∧ ∀ md, look Ms k' = some md → ∀ e ∈ md.f, e.1 ≠ r.dst := fun k k' r r' hk h1 h2 => by
  have hk' : k' < i := by have := (List.getElem?_eq_some_iff.1 h2).1; have := hI.len; omega
  obtain ⟨ok', hok'⟩ : ∃ o, ops[k']? = some o := ⟨ops[k'], by simp [show k' < ops.size by omega]⟩
  obtain ⟨r2, ok, _⟩ := hI.all k' _ hk' hok'
  have h3 := ok.get
  rw [h2] at h3; injection h3 with h3; subst h3
  have hne : r'.dst ≠ r.dst := fun e => freshDst_iff.1 ok.fresh r (List.mem_of_getElem? (i := k) (by rw [List.getElem?_take, if_pos hk]; exact h1)) e.symm
  refine ⟨hne, fun md hmd e he => ?_⟩
  have : efF Rs Ms k' = md.f := by unfold efF; rw [hmd]
  rw [ok.f e (by rw [this]; exact he)]; exact hne
theorem headX_run (hT : ∀ e ∈ tb.ents, e.Sound P) {ops : Array Oper} {Cs : List (Nat × List Nat × List Nat)} {fin : List (Nat × Md) → List HR → List (Nat × Bool) → Option R} {x : R} : ∀ (l : List Oper) (i : Nat) (Rs : List HR) (kn : List (Nat × Bool)) (Ms : List (Nat × Md)), (∀ j, j < l.length → ops[i + j]? = l[j]?) → KnOk Rs kn → HX P ops s Cs i Rs Ms → i ≤ ops.size →
    headX P tb ops s Cs fin l i Rs kn Ms = some x → ∃ Ms' Rs' kn', fin Ms' Rs' kn' = some x ∧ KnOk Rs' kn' ∧ HX P ops s Cs (i + l.length) Rs' Ms'
  | [], i, Rs, kn, Ms, _, hkn, hI, _, h => ⟨Ms, Rs, kn, h, hkn, hI⟩
  | o :: l, i, Rs, kn, Ms, hl, hkn, hI, his, h => by
    have ho : ops[i]? = some o := by have := hl 0 (by simp); simpa using this
    have hil : i < ops.size := (Array.getElem?_eq_some_iff.1 ho).1
    have hl' : ∀ j, j < l.length → ops[i + 1 + j]? = l[j]? := fun j hj => by have := hl (j + 1) (by simp; omega); simpa [Nat.add_assoc, Nat.add_comm 1 j] using this
    have knm : ∀ (r0 : HR) (kn' : List (Nat × Bool)), KnOk Rs kn' → KnOk (Rs ++ [r0]) kn' := fun r0 kn' hk j d hj => by
      obtain ⟨r, i1, i2⟩ := hk j d hj
      exact ⟨r, by rw [List.getElem?_append_left (List.getElem?_eq_some_iff.1 i1).1]; exact i1, i2⟩
    have htl : ∀ r0 : HR, (Rs ++ [r0]).take i = Rs := fun r0 => by rw [← hI.len, List.take_left]
    have hge : ∀ r0 : HR, (Rs ++ [r0])[i]? = some r0 := fun r0 => by rw [← hI.len]; simp
    have hMi : look Ms i = none := by
      cases hq : look Ms i with
      | none => rfl
      | some v => have := hI.lt i (by rw [hq]; simp); omega
    have hdis := hI.dis his
    -- a further operation that leaves own memory
    have normal : ∀ (pred : List Nat) (tt : Nat) (v : AV) (new : List (Nat × Box)) (ps : List Prop) (c : Dec), predsOf Rs o.after.toList = some pred → o.dst = some tt → Nat.blt tt s.n = true → noRange (s.nx + 32 * tt) s.hp = true → freshDst tt Rs = true → readsFine pred (readsOf ops o) Rs 0 = true → writesFine ops tt pred i = true →
        astepH P ops ((addSelX Ms pred Rs 0 s).hide (hidK Cs pred i)) c o = some (ps, v, new) → Alls ps → HX P ops s Cs (i + 1) (Rs ++ [⟨tt, v, new, pred⟩]) Ms := fun pred tt v new ps c hp hd b1 b2 b3 b4 b5 hst hps => by
      refine ⟨by rw [List.length_append, hI.len]; rfl, fun j oj hj hoj => ?_, fun j hj => by have := hI.lt j hj; omega, fun j r md hr hm => by
        have hji := hI.lt j (by rw [hm]; simp)
        exact hI.und j r md (by rw [List.getElem?_append_left (by have := hI.len; omega)] at hr; exact hr) hm⟩
      by_cases hji : j < i
      · obtain ⟨r, ok, st⟩ := hI.all j oj hji hoj
        exact ⟨r, hI.more (fun _ _ => rfl) hji ok st⟩
      · have : j = i := by omega
        subst this
        rw [ho] at hoj; cases hoj
        have hs : seenX s (Rs ++ [⟨tt, v, new, pred⟩]) Ms Cs j ⟨tt, v, new, pred⟩ = (addSelX Ms pred Rs 0 s).hide (hidK Cs pred j) := by unfold seenX; rw [htl]
        have hef : efF (Rs ++ [⟨tt, v, new, pred⟩]) Ms j = [(tt, v)] := by unfold efF; rw [hMi, hge]
        have heh : efH (Rs ++ [⟨tt, v, new, pred⟩]) Ms j = new := by unfold efH; rw [hMi, hge]
        have hnm := astepH_names hd hst
        have hnx : ((addSelX Ms pred Rs 0 s).hide (hidK Cs pred j)).nx = s.nx := by
          rw [addSelX_eq (Rs := Rs) Rs 0 s (fun k _ => by rw [Nat.zero_add])]; rfl
        rw [hnx] at hnm
        refine ⟨⟨tt, v, new, pred⟩, ⟨hge _, b2, by rw [htl]; exact hp, by rw [htl]; exact b3, by rw [htl]; exact b4, b5, fun e he => ?_, fun e he => .inl ?_⟩, .inl ⟨hMi, hd, by simpa using b1, ps, c, by rw [hs]; exact hst, hps⟩⟩
        · rw [hef] at he; rw [List.mem_singleton] at he; subst he; rfl
        · rw [heh] at he; exact hnm e he
    simp only [headX] at h
    split at h
    · cases h
    · rename_i pred hp
      cases hc : dstLt s o.dst && noRange (s.nx + 32 * dstX s i o.dst) s.hp && freshDst (dstX s i o.dst) Rs && readsFine pred (readsOf ops o) Rs 0 && writesFine ops (dstX s i o.dst) pred i <;> rw [hc] at h <;> simp only [cond_true, cond_false, reduceCtorEq] at h
      simp only [Bool.and_eq_true] at hc
      obtain ⟨⟨⟨⟨b1, b2⟩, b3⟩, b4⟩, b5⟩ := hc
      split at h
      · rename_i K Pm hf hg
        split at h
        · rename_i q hq
          obtain ⟨d, q1, q2⟩ := Rq.K_some h
          split at q2
          · rename_i ps v new tt ha hd
            rw [hd] at b1 b2 b3 b5
            have hps := areq_add hT hq q1 ha
            have hI' := normal pred tt v new ps (false, d) hp hd b1 b2 b3 b4 b5 (by unfold astepH; rw [hg]; exact ha) hps
            obtain ⟨Ms', Rs', kn', e1, e2, e3⟩ := headX_run hT l (i + 1) _ kn Ms hl' (knm _ _ hkn) hI' (by omega) q2
            exact ⟨Ms', Rs', kn', e1, e2, by rw [List.length_cons, show i + (l.length + 1) = i + 1 + l.length by omega]; exact e3⟩
          · split at q2
            · rename_i ps md hmo
              cases hx : mdNamesX s Rs pred (dstX s i o.dst) K md.h && mdSlotsX (dstX s i o.dst) md.f && subN Pm pred && subM pred Ms <;> rw [hx] at q2 <;> simp only [cond_true, cond_false, reduceCtorEq] at q2
              simp only [Bool.and_eq_true] at hx
              obtain ⟨⟨⟨x1, x2⟩, x3⟩, x4⟩ := hx
              have hps := areq_ok hT hq q1 (modOp_aex hmo)
              have hM' : ∀ j, j < i → look ((i, md) :: Ms) j = look Ms j := fun j hj => by
                have : Nat.beq i j = false := by
                  cases hb : Nat.beq i j
                  · rfl
                  · have := Nat.eq_of_beq_eq_true hb; omega
                simp only [look, this, cond_false]
              have hMM : look ((i, md) :: Ms) i = some md := by simp [look]
              have hI' : HX P ops s Cs (i + 1) (Rs ++ [⟨dstX s i o.dst, .undef, [], pred⟩]) ((i, md) :: Ms) := by
                refine ⟨by rw [List.length_append, hI.len]; rfl, fun j oj hj hoj => ?_, fun j hj => ?_, fun j r md' hr hm => ?_⟩
                · by_cases hji : j < i
                  · obtain ⟨r, ok, st⟩ := hI.all j oj hji hoj
                    exact ⟨r, hI.more hM' hji ok st⟩
                  · have : j = i := by omega
                    subst this
                    rw [ho] at hoj; cases hoj
                    have hs : seenX s (Rs ++ [⟨dstX s j o.dst, .undef, [], pred⟩]) ((j, md) :: Ms) Cs j ⟨dstX s j o.dst, .undef, [], pred⟩ = (addSelX Ms pred Rs 0 s).hide (hidK Cs pred j) := by
                      unfold seenX
                      rw [htl, addSelX_congr (Ms' := Ms) Rs 0 s (fun k hk => hM' k (by have := hI.len; omega))]
                    have hef : efF (Rs ++ [⟨dstX s j o.dst, .undef, [], pred⟩]) ((j, md) :: Ms) j = md.f := by unfold efF; rw [hMM]
                    have heh : efH (Rs ++ [⟨dstX s j o.dst, .undef, [], pred⟩]) ((j, md) :: Ms) j = md.h := by unfold efH; rw [hMM]
                    refine ⟨⟨dstX s j o.dst, .undef, [], pred⟩, ⟨hge _, b2, by rw [htl]; exact hp, by rw [htl]; exact b3, by rw [htl]; exact b4, b5, fun e he => ?_, fun e he => ?_⟩, .inr ⟨ps, d, md, hMM, hg, fun t ht => ?_, by rw [hs]; exact hmo, hps⟩⟩
                    · rw [hef] at he; exact mdSlotsX_iff x2 e he
                    · rw [heh] at he
                      rcases mdNamesX_iff x1 e he with h' | ⟨h1, h2⟩
                      · exact .inl h'
                      · refine .inr ⟨by rw [hMM]; simp, ⟨K, Pm, findC_mem hf, h1, subN_iff x3⟩, ?_, fun k hk hkm => subM_iff x4 k (by rw [hM' k hk] at hkm; exact hkm)⟩
                        rcases h2 with h2 | ⟨c, rc, c1, c2, c3⟩
                        · exact .inl h2
                        · have : c < Rs.length := (List.getElem?_eq_some_iff.1 c2).1
                          exact .inr ⟨c, rc, c1, by rw [List.getElem?_append_left this]; exact c2, c3⟩
                    · rw [ht] at b1 ⊢
                      exact ⟨rfl, by simpa [dstLt] using b1⟩
                · simp only [look] at hj
                  cases hb : Nat.beq i j <;> rw [hb] at hj <;> simp only [cond_true, cond_false] at hj
                  · have := hI.lt j hj; omega
                  · have := Nat.eq_of_beq_eq_true hb; omega
                · by_cases hji : j = i
                  · subst hji; rw [hge] at hr; cases hr; rfl
                  · have hr' : (Rs ++ [⟨dstX s i o.dst, .undef, [], pred⟩])[j]? = some r := hr
                    have hjl : j < i + 1 := by have := (List.getElem?_eq_some_iff.1 hr).1; simp at this; have := hI.len; omega
                    exact hI.und j r md' (by rw [List.getElem?_append_left (by have := hI.len; omega)] at hr; exact hr) (by rw [hM' j (by omega)] at hm; exact hm)
              obtain ⟨Ms', Rs', kn', e1, e2, e3⟩ := headX_run hT l (i + 1) _ kn _ hl' (knm _ _ hkn) hI' (by omega) q2
              exact ⟨Ms', Rs', kn', e1, e2, by rw [List.length_cons, show i + (l.length + 1) = i + 1 + l.length by omega]; exact e3⟩
            · cases q2
        · cases h
      · split at h
        · rename_i d hd
          rw [hd] at b1 b2 b3 b5
          have hv : ∀ j r, memN (dropMs Ms pred) j = true → Rs[j]? = some r → look ((addSelX Ms pred Rs 0 s).hide (hidK Cs pred i)).fr r.dst = some r.v := fun j r hm hr => by
            obtain ⟨h1, h2⟩ := mem_dropMs.1 (memN_iff.1 hm)
            exact addSelX_in (k := j) hr (by rw [Nat.zero_add]; exact memN_iff.2 h1) (by rw [Nat.zero_add]; exact h2) (fun k' r' hk hr' => by rw [Nat.zero_add]; exact hdis j k' r r' hk hr hr')
          have hdd : ∀ (j : Nat) (r : HR), memN (dropMs Ms pred) j = true → Rs[j]? = some r → ∃ oj : Oper, ops[j]? = some oj ∧ oj.dst = some r.dst := fun j r hm hr => by
            obtain ⟨h1, h2⟩ := mem_dropMs.1 (memN_iff.1 hm)
            have hj : j < i := by have := (List.getElem?_eq_some_iff.1 hr).1; have := hI.len; omega
            obtain ⟨oj, hoj⟩ : ∃ o, ops[j]? = some o := ⟨ops[j], by simp [show j < ops.size by omega]⟩
            obtain ⟨r2, ok, st⟩ := hI.all j oj hj hoj
            have h3 := ok.get
            rw [hr] at h3; injection h3 with h3; subst h3
            rcases st with ⟨_, s2, _⟩ | ⟨_, _, md, s1, _⟩
            · exact ⟨oj, hoj, s2⟩
            · rw [h2] at s1; cases s1
          obtain ⟨ps, c, v, new, kn', h1, h2, h3, h4⟩ := opH_ok hT hkn hv hdd h
          have hI' := normal pred d v new ps c hp hd b1 b2 b3 b4 b5 h1 h2
          obtain ⟨Ms', Rs', kn2, e1, e2, e3⟩ := headX_run hT l (i + 1) _ kn' Ms hl' (knm _ _ h3) hI' (by omega) h4
          exact ⟨Ms', Rs', kn2, e1, e2, by rw [List.length_cons, show i + (l.length + 1) = i + 1 + l.length by omega]; exact e3⟩
        · cases h
theorem drawC_ok (hT : ∀ e ∈ tb.ents, e.Sound P) (hm : P.follows .mixedOrders = true) {ops : Array Oper} {Cs : List (Nat × List Nat × List Nat)} {K : St → Option R} {x : R} (h : drawC P tb ops s Cs K = some x) {N : Act → World → Prop} (hN : ∀ s', K s' = some x → ∀ G' a' w', Rel w₀ G₀ hp₀ G' s' a' w' → N a' w')
    (hr : Rel w₀ G₀ hp₀ G s a w) (id : Nat) (b : Frame) (kk : List Item) (cs : List Frame) (hk : b.kind = .normal) :
    ∃ a' w', N a' w' ∧ Steps P (lone (b.atR a (.code (.region id ops true) :: kk)) cs w) (lone (b.atR a' kk) cs w') := by
  unfold drawC at h
  generalize headLen ops = n at h
  cases hb : edgesFine ops.toList 0 && tailFine ops n && Nat.ble n ops.toList.length <;> rw [hb] at h <;> simp only [cond_true, cond_false, reduceCtorEq] at h
  simp only [Bool.and_eq_true] at hb
  obtain ⟨⟨b1, b2⟩, b3⟩ := hb
  have hn : n ≤ ops.size := by have := Nat.le_of_ble_eq_true b3; simpa using this
  have hlen : (ops.toList.take n).length = n := by simp; omega
  obtain ⟨Ms, Rs, kn, k1, kkn, hI⟩ := headX_run hT (ops.toList.take n) 0 [] [] [] (fun j hj => by
    rw [hlen] at hj
    rw [List.getElem?_take, if_pos hj, Nat.zero_add]; simp) (fun j d h => by cases h) ⟨rfl, fun j o hj => (by omega), fun j hj => absurd rfl hj, fun j r md h => by simp at h⟩ (Nat.zero_le _) h
  rw [Nat.zero_add, hlen] at hI
  have base : ∀ (G : Gh) (a : Act) (w : World), Rel w₀ G₀ hp₀ G (addSelX Ms (List.range n) Rs 0 s) a w → ∀ l, Rel w₀ G₀ hp₀ G (knows Rs kn l (addSelX Ms (List.range n) Rs 0 s)) a w := by
    intro G a w hr l
    induction l with
    | nil => exact hr
    | cons e l ih =>
      obtain ⟨j, d⟩ := e
      unfold knows
      split
      · rename_i d' r h0 h1
        obtain ⟨r', i1, h2⟩ := kkn j d' h0
        rw [h1] at i1; have := Option.some.inj i1; subst this
        have hj : j < n := by have := (List.getElem?_eq_some_iff.1 h1).1; rw [hI.len] at this; exact this
        refine ih.know ?_
        cases hMj : look Ms j with
        | some md =>
          have := hI.und j r md h1 hMj
          rw [h2] at this; cases this
        | none =>
          have hin : look (addSelX Ms (List.range n) Rs 0 s).fr r.dst = some r.v := addSelX_in (k := j) h1 (by rw [Nat.zero_add, memN_iff]; exact List.mem_range.2 hj) (by rw [Nat.zero_add]; exact hMj) (fun k' r' hk hr' => by rw [Nat.zero_add]; exact hI.dis hn j k' r r' hk h1 hr')
          obtain ⟨v, v1, v2⟩ := hr.frame r.dst _ hin
          rw [h2] at v2
          have v2 : v = .bool d' := v2
          subst v2
          show a.tmps.getD r.dst undef = _
          rw [Array.getD_eq_getD_getElem?, v1]; rfl
      · exact ih
  refine dRegionDraw hm ?_ b kk cs hk
  refine headX_ok (w₀ := w₀) (G₀ := G₀) (hp₀ := hp₀) (N := N) hn b1 b2 hI.len hI.all (fun G a w listed hr' hu => tail_ok hT b1 b2 hN _ n (Nat.le_refl _) rfl hn _ G a w listed k1 (base G a w hr' kn) hu) ops.size [] _ G a _ (by simp) ?_ trivial ?_
  · refine ⟨List.nodup_nil, fun i hi => (by cases hi), by simp, fun j hj => ?_, fun i hi => (by cases hi)⟩
    rw [Array.getD_eq_getD_getElem?]
    simp [hj]
  · exact ⟨hr.defers, hr.size, hr.frame, hr.fresh, ⟨⟨hr.fin.mem.agree, hr.fin.mem.one, hr.fin.mem.holds, hr.fin.mem.apart, hr.fin.mem.tab⟩, ⟨hr.fin.bel.os, hr.fin.bel.tape, hr.fin.bel.output, hr.fin.bel.size, hr.fin.bel.block⟩, hr.fin.imm_le, hr.fin.imm_new, hr.fin.base, hr.fin.keep, hr.fin.keepOwn⟩⟩
theorem drawY_ok (hT : ∀ e ∈ tb.ents, e.Sound P) (hm : P.follows .mixedOrders = true) {ops : Array Oper} {K : St → Option R} {x : R} (h : drawY P tb ops s K = some x) {N : Act → World → Prop} (hN : ∀ s', K s' = some x → ∀ G' a' w', Rel w₀ G₀ hp₀ G' s' a' w' → N a' w')
    (hr : Rel w₀ G₀ hp₀ G s a w) (id : Nat) (b : Frame) (k : List Item) (cs : List Frame) (hk : b.kind = .normal) :
    ∃ a' w', N a' w' ∧ Steps P (lone (b.atR a (.code (.region id ops true) :: k)) cs w) (lone (b.atR a' k) cs w') := by
  unfold drawY at h
  split at h
  · exact drawR_ok hT hm h hN hr id b k cs hk
  · exact drawC_ok hT hm h hN hr id b k cs hk
theorem drawX_ok (hT : ∀ e ∈ tb.ents, e.Sound P) (hm : P.follows .mixedOrders = true) {ops : Array Oper} {K : St → Option R} {x : R} (h : drawX P tb ops s K = some x) {N : Act → World → Prop} (hN : ∀ s', K s' = some x → ∀ G' a' w', Rel w₀ G₀ hp₀ G' s' a' w' → N a' w')
    (hr : Rel w₀ G₀ hp₀ G s a w) (id : Nat) (b : Frame) (k : List Item) (cs : List Frame) (hk : b.kind = .normal) :
    ∃ a' w', N a' w' ∧ Steps P (lone (b.atR a (.code (.region id ops true) :: k)) cs w) (lone (b.atR a' k) cs w') := by
  obtain ⟨G', hr'⟩ := hr.frzL (ks := preK s (ops.toList.take (headLen ops)) (ops.toList.take (headLen ops)))
  exact drawY_ok hT hm h hN hr' id b k cs hk
end
end Go.Sym
/- The whole of a body: what is emitted. -/
namespace Go.Sym
open Go.RowKit
variable [LC]

def child (i : Nat) (c : Code) : Code := match c with
  | .seq a b => match i with
    | 0 => a
    | _ => b
  | .cond _ a b => match i with
    | 0 => a
    | _ => b
  | .block _ a => a
  | .loop a => a
  | .scope a => a
  | .rangeFunc _ _ a b => match i with
    | 0 => a
    | _ => b
  | c => c
/-- a part of a body, by the way to it, backwards -/
def sub (body : Code) : List Nat → Code
  | [] => body
  | i :: p => child i (sub body p)
structure PIt where
  kd : Nat
  path : List Nat
  it : Item
def itemAt (body : Code) (kd : Nat) (p : List Nat) : Item := match kd with
  | 0 => .code (sub body p)
  | 1 => match sub body p with
    | .block id _ => .inBlock id
    | c => .code c
  | 2 => match sub body p with
    | .loop x => .inLoop x
    | c => .code c
  | 3 => match sub body p with
    | .scope x => .inScope x
    | c => .code c
  | _ => .beginRound
def PIt.Ok (body : Code) (i : PIt) : Prop := i.it = itemAt body i.kd i.path
abbrev PKey := List (Nat × List Nat)
def itemsAt (body : Code) : PKey → List PIt
  | [] => []
  | (kd, p) :: r => ⟨kd, p, itemAt body kd p⟩ :: itemsAt body r
def items : List PIt → List Item
  | [] => []
  | i :: r => i.it :: items r
def eqKey : PKey → List PIt → Bool
  | [], [] => true
  | (kd, p) :: r, i :: k => Nat.beq kd i.kd && eqNs p i.path && eqKey r k
  | _, _ => false
omit [LC] in
theorem eqKey_items {body : Code} : ∀ {key : PKey} {k : List PIt}, eqKey key k = true → (∀ i ∈ k, i.Ok body) → items (itemsAt body key) = items k
  | [], [], _, _ => rfl
  | (kd, p) :: r, ⟨kd', p', it⟩ :: k, h, hk => by
    simp only [eqKey, Bool.and_eq_true] at h
    obtain ⟨⟨h1, h2⟩, h3⟩ := h
    have h1 := Nat.eq_of_beq_eq_true h1
    have h2 := eqNs_eq h2
    subst h1 h2
    have ho : it = itemAt body kd p := hk _ List.mem_cons_self
    simp only [itemsAt, items]
    rw [eqKey_items h3 (fun i hi => hk i (List.mem_cons_of_mem _ hi)), ho]
  | [], _ :: _, h, _ => by cases h
  | _ :: _, [], h, _ => by cases h
omit [LC] in
theorem itemsAt_ok {body : Code} : ∀ {key : PKey}, ∀ i ∈ itemsAt body key, i.Ok body
  | [], i, h => by cases h
  | (kd, p) :: r, i, h => by
    rcases List.mem_cons.1 h with rfl | h
    · rfl
    · exact itemsAt_ok i h
omit [LC] in
theorem itemAt_code {body : Code} {kd : Nat} {p : List Nat} {c : Code} (h : Item.code c = itemAt body kd p) : sub body p = c := by
  unfold itemAt at h
  split at h
  · injection h with h; exact h.symm
  · split at h
    · cases h
    · injection h with h; exact h.symm
  · split at h
    · cases h
    · injection h with h; exact h.symm
  · split at h
    · cases h
    · injection h with h; exact h.symm
  · cases h
omit [LC] in
theorem itemAt_loop {body : Code} {kd : Nat} {p : List Nat} {c : Code} (h : Item.inLoop c = itemAt body kd p) : sub body p = .loop c := by
  unfold itemAt at h
  split at h
  · cases h
  · split at h <;> cases h
  · split at h
    · rename_i e; injection h with h; subst h; exact e
    · cases h
  · split at h <;> cases h
  · cases h
def exitP (id : Nat) : List PIt → Option (List PIt)
  | [] => none
  | i :: k => match i.it with
    | .inBlock id' => if id' == id then some k else exitP id k
    | _ => exitP id k
omit [LC] in
theorem exitP_some {id : Nat} : ∀ {k k' : List PIt}, exitP id k = some k' → exitTo id (items k) = some (items k') ∧ ∀ i ∈ k', i ∈ k
  | [], _, h => by cases h
  | ⟨kd, p, it⟩ :: k, k', h => by
    simp only [exitP] at h
    split at h
    · rename_i id'
      split at h
      · rename_i he
        simp only [Option.some.injEq] at h; subst h
        exact ⟨by simp only [items, exitTo]; rw [if_pos he], fun i hi => List.mem_cons_of_mem _ hi⟩
      · rename_i he
        obtain ⟨h1, h2⟩ := exitP_some h
        exact ⟨by simp only [items, exitTo]; rw [if_neg he]; exact h1, fun i hi => List.mem_cons_of_mem _ (h2 i hi)⟩
    · rename_i hne
      obtain ⟨h1, h2⟩ := exitP_some h
      refine ⟨?_, fun i hi => List.mem_cons_of_mem _ (h2 i hi)⟩
      (try simp only at hne)
      simp only [items]
      cases it <;> first
        | (exfalso; exact hne _ rfl)
        | (simp only [exitTo]; exact h1)

/- results -/
def aresult (P : Program) (s : St) : ResultVar → Option AV
  | .tmp t => look s.fr t
  | .cell t T => match look s.fr t with
    | some (.ptr b off) => match look s.hp b with
      | some (.cells cs _) => aload P T cs off
      | _ => none
    | some (.oel k sz 0 0) => match look s.hp k, tAgg P T, tSize P T with
      | some (.row τ l _), some true, some _ => bif τ.is1 && Nat.beq sz 1 then some (.arr τ l) else none
      | _, _, _ => none
    | _ => none
/-- arrays that are handed back have their length -/
def resQ (P : Program) (s : St) : ResultVar → Bool
  | .tmp _ => true
  | .cell t T => match look s.fr t with
    | some (.oel k _ 0 0) => match look s.hp k, tSize P T with
      | some (.row _ l _), some n => decide (l.length = n)
      | _, _ => true
    | _ => true
def resQs (P : Program) (s : St) : List ResultVar → Bool
  | [] => true
  | x :: xs => resQ P s x && resQs P s xs
def aresults (P : Program) (s : St) : List ResultVar → Option (List AV)
  | [] => some []
  | x :: xs => match aresult P s x with
    | some v => match aresults P s xs with
      | some vs => some (v :: vs)
      | none => none
    | none => none
def aret (P : Program) (fn : Func) (s : St) : Option AV :=
  match aresults P s fn.results.toList with
  | some vs => match vs with
    | [v] => some v
    | vs => some (.tup vs)
  | none => none
/-- .. all cells of a result -/
def frzC (p : Pt) (b off : Nat) (s : St) : St := match look s.hp b with
  | some (.cells cs _) => frzL (frzOf p (.agg (cs.drop off))) s
  | _ => s
def coR (bs : List (Nat × BPt)) : List ResultVar → List Pt → St → St
  | [], _, s => s
  | x :: xs, ps, s => match ps with
    | [] => s
    | p :: ps => match x with
      | .tmp t => coR bs xs ps (coF bs [(t, p)] s)
      | .cell t _ => match look s.fr t with
        | some (.ptr b off) => coR bs xs ps (frzC p b off (coB1 bs b [p] off s))
        | _ => coR bs xs ps s
def ptsOf : Pt → List Pt
  | .tup ps => ps
  | p => [p]
def finV (v : AV) (ids : NM) (p : Pt) (hp : List (Nat × BPt)) (s : St) : Option (p.den × bden hp) :=
  match p.get v ids with
  | some (d, nm) => match bget s.hp hp nm with
    | some (d', nm') => bif distinctOld nm' && allIn nm' hp then some (d, d') else none
    | none => none
  | none => none
def finOne (P : Program) (fn : Func) (ids : NM) (rv : Option AV) (p : Pt) (hp : List (Nat × BPt)) (s : St) : Option (p.den × bden hp) :=
  match rv with
  | some v => finV v ids p hp (coB hp ids hp s)
  | none => match aret P fn (coR hp fn.results.toList (ptsOf p) (coB hp ids hp s)) with
    | some v => finV v ids p hp (coR hp fn.results.toList (ptsOf p) (coB hp ids hp s))
    | none => none
def finQ (P : Program) (fn : Func) (ids : NM) (rv : Option AV) (p : Pt) (hp : List (Nat × BPt)) (s : St) : Bool :=
  match rv with
  | some _ => true
  | none => resQs P (coR hp fn.results.toList (ptsOf p) (coB hp ids hp s)) fn.results.toList
def RS.fin (P : Program) (fn : Func) (ids : NM) (rv : Option AV) (s : St) : {α : Type} → RS α → Option α
  | _, .one p hp _ fro _ => bif finQ P fn ids rv p hp s then (match finOne P fn ids rv p hp s with
    | some y => some (fro y)
    | none => none) else none
  | _, .two l r => match l.fin P fn ids rv s with
    | some a => some (.inl a)
    | none => match r.fin P fn ids rv s with
      | some b => some (.inr b)
      | none => none
structure Lab (R : Type) where
  key : PKey
  ls : LS
  F : ls.den → Option R
def findLab {R : Type} (k : List PIt) : List (Lab R) → Option (Lab R)
  | [] => none
  | l :: ls => bif eqKey l.key k then some l else findLab k ls
/-- among labels at one place: the first that fits -/
def pickLab {R : Type} (ids : NM) (s : St) (k : List PIt) : List (Lab R) → Option (Lab R)
  | [] => none
  | l :: ls => bif eqKey l.key k then (match pickLab ids s k ls with
      | none => some l
      | some l' => match l.ls.get ids (l.ls.co ids s) with
        | some _ => some l
        | none => some l') else pickLab ids s k ls
structure Cx : Type 1 where
  P : Program
  tb : Tb
  fn : Func
  f : FuncId
  ids : NM
  /-- a round: of which loop -/
  rd : Option Nat
  tags : List (List Nat × Nat)
def St.noDf (s : St) : Bool := match s.df with
  | [] => true
  | _ => false
def closeDf : List Nat → St → Option St
  | [], s => some { s with df := [] }
  | n :: ns, s => match look s.hp n with
    | some .dfr => closeDf ns { s with hp := (n, .dead) :: s.hp, df := ns }
    | _ => none
def isNo : Option Jmp → Bool
  | none => true
  | some _ => false
def endq (cx : Cx) {R : Type} (enc : RS R) (j : Option Jmp) (s : St) : Option R :=
  match cx.rd with
  | none => match closeDf s.df s with
    | some s' => enc.fin cx.P cx.fn cx.ids none s'
    | none => none
  | some m => bif s.noDf then
      (match look s.hp m with
      | some (.loop _ _ f n fr ps tag D) => enc.fin cx.P cx.fn cx.ids (some (.val (.bool (isNo j)))) { s with hp := (m, .loop (bif isNo j then .ready else .done) j f n fr ps tag D) :: s.hp }
      | _ => none)
    else none
def St.enterRF (s : St) (f : FuncId) (ps : List Tmp) (tag : Nat) (around : Option Nat) : Option St :=
  bif noRange s.nx s.hp then
    (match around with
    | none => some { s with hp := (s.nx, .loop .ready none f s.n s.fr ps tag (s.nx + 1)) :: (s.nx + 1, .dfr) :: s.hp, df := (s.nx + 1) :: s.df, nx := s.nx + 32 }
    | some m => match look s.hp m with
      | some (.loop _ _ _ _ _ _ _ D) => some { s with hp := (s.nx, .loop .ready none f s.n s.fr ps tag D) :: s.hp, nx := s.nx + 32 }
      | _ => none)
  else none
def rfCall (s : St) (ys : List AV) (d : D) : Option St := match d with
  | .mem names xs hp _ hp' =>
    bif distinctOld names && distinctNew names && noRange s.nx s.hp then
      (match viewHp (rho names) s.hp names, vws false [] (AV.rens (rho names) ys) xs with
      | some hpv, some _ => match vwHp hpv hp with
        | some _ => some { s with hp := backHp (back names hp' s.nx) hp' ++ (deads names ++ s.hp), nx := s.nx + 32 }
        | none => none
      | _, _ => none)
    else none
  | _ => none
def lookT (p : List Nat) : List (List Nat × Nat) → Option Nat
  | [] => none
  | (q, t) :: r => bif eqNs q p then some t else lookT p r
def notBusy : LoopState → Bool
  | .busy => false
  | _ => true
/-- what the call asks for -/
def rfAsk (cx : Cx) (p : List Nat) (g : Operand) (ps : List Tmp) (s : St) : Option (Rq × St × List AV) :=
  match lookT p cx.tags, s.ev g with
  | some tag, some (.fn (.func h) [] cap) => match s.enterRF cx.f ps tag cx.rd with
    | some s1 => match firstQ (callMQ s1 h (.yld s.nx :: cap)) cx.tb.ents with
      | some q => some (q, s1, .yld s.nx :: cap)
      | none => none
    | none => none
  | _, _ => none
def rfPre (cx : Cx) (p : List Nat) (g : Operand) (ps : List Tmp) (s : St) : Option St :=
  match lookT p cx.tags, s.ev g with
  | some tag, some (.fn (.func h) [] cap) => match s.enterRF cx.f ps tag cx.rd with
    | some s1 => match entFor (fun e => keyIs h e.key) cx.tb.ents with
      | some e => some (coB e.hp (nmH s1 e.hp (nmPs e.args (.yld s.nx :: cap))) e.hp (frzL (frzOfs e.args (.yld s.nx :: cap)) s))
      | none => none
    | none => none
  | _, _ => none
/-- behind the call -/
def rfGo {R : Type} (nl : Nat) (a : Rq × St × List AV) (K : Option Jmp → St → Option R) : Option R :=
  a.1.K fun d => match rfCall a.2.1 a.2.2 d with
    | some s3 => match look s3.hp nl with
      | some (.loop st pe _ _ _ _ _ _) => bif notBusy st then K pe { s3 with hp := (nl, .dead) :: s3.hp } else none
      | _ => none
    | none => none
/-- the whole statement: the pending jump, and the state behind it -/
def rfR (cx : Cx) {R : Type} (p : List Nat) (g : Operand) (ps : List Tmp) (s : St) (K : Option Jmp → St → Option R) : Option R :=
  match rfAsk cx p g ps s with
  | some a => rfGo s.nx a K
  | none => match rfPre cx p g ps s with
    | some s' => match rfAsk cx p g ps s' with
      | some a => rfGo s'.nx a K
      | none => none
    | none => none
def run (cx : Cx) {R : Type} (enc : RS R) (labs : List (Lab R)) : Nat → Bool → List PIt → St → Option R
  | 0, _, _, _ => none
  | n + 1, chk, k, s => match (bif chk then pickLab cx.ids s k labs else none) with
    | some lab => match lab.ls.get cx.ids (lab.ls.co cx.ids s) with
      | some d => lab.F d
      | none => none
    | none => match k with
      | [] => endq cx enc none s
      | ⟨_, p, it⟩ :: k' => match it with
        | .code c => match c with
          | .skip => run cx enc labs n true k' s
          | .label _ => run cx enc labs n true k' s
          | .seq x y => run cx enc labs n true (⟨0, 0 :: p, .code x⟩ :: ⟨0, 1 :: p, .code y⟩ :: k') s
          | .cond c x y => match s.ev c with
            | some (.bool b) => bif b then run cx enc labs n true (⟨0, 0 :: p, .code x⟩ :: k') (s.know c true) else run cx enc labs n true (⟨0, 1 :: p, .code y⟩ :: k') (s.know c false)
            | some (.val (.bool b)) => bif b then run cx enc labs n true (⟨0, 0 :: p, .code x⟩ :: k') s else run cx enc labs n true (⟨0, 1 :: p, .code y⟩ :: k') s
            | _ => none
          | .block id x => run cx enc labs n true (⟨0, 0 :: p, .code x⟩ :: ⟨1, p, .inBlock id⟩ :: k') s
          | .loop x => run cx enc labs n true (⟨0, 0 :: p, .code x⟩ :: ⟨2, p, .inLoop x⟩ :: k') s
          | .scope x => run cx enc labs n true (⟨0, 0 :: p, .code x⟩ :: ⟨3, p, .inScope x⟩ :: k') s
          | .exit id => match exitP id k' with
            | some k'' => run cx enc labs n true k'' s
            | none => match cx.rd with
              | some _ => endq cx enc (some (.exit id)) s
              | none => none
          | .region _ ops d => bif d then drawX cx.P cx.tb ops s (fun s' => run cx enc labs n true k' s'.bump) else opsR cx.P cx.tb ops ops.toList s (fun s' => run cx enc labs n true k' s'.bump)
          | .ret => endq cx enc (some .ret) s
          | .rangeFunc g ps _ _ => rfR cx p g ps.toList s fun j s' => match j with
            | none => run cx enc labs n true k' s'
            | some .ret => endq cx enc (some .ret) s'
            | some (.exit id) => match exitP id k' with
              | some k'' => run cx enc labs n true k'' s'
              | none => match cx.rd with
                | some _ => endq cx enc (some (.exit id)) s'
                | none => none
          | _ => none
        | .inBlock _ => run cx enc labs n true k' s
        | .inScope _ => run cx enc labs n true k' s
        | .inLoop x => run cx enc labs n true (⟨0, 0 :: p, .code x⟩ :: ⟨2, p, .inLoop x⟩ :: k') s
        | .beginRound => match cx.rd with
          | some m => match look s.hp m with
            | some (.loop .ready pe f n' fr ps tag D) => run cx enc labs n true k' { s with hp := (m, .loop .busy pe f n' fr ps tag D) :: s.hp }
            | _ => none
          | none => none
        | _ => none
end Go.Sym
/- The whole of a body: what is emitted is what the machine does. -/
namespace Go.Sym
open Go.RowKit
variable [LC]

/-- from here the call (or the round) comes to its end -/
def Arrives (P : Program) (ro : Option Nat) (f : FuncId) (x : Machine) (cs : List Frame) (Q : Value → World → Prop) : Prop :=
  match ro with
  | none => ∃ v w' fr, Q v w' ∧ Steps P x (lone fr cs w') ∧ fr.fn = f ∧ fr.leaving P w' (.returned v)
  | some _ => ∀ c cs', cs = c :: cs' → ∃ v w', Q v w' ∧ Steps P x (lone (c.finish v) cs' w')
omit [LC] in
theorem Arrives.head {P : Program} {ro : Option Nat} {f : FuncId} {x y : Machine} {cs : List Frame} {Q : Value → World → Prop} (h : Steps P x y) (k : Arrives P ro f y cs Q) : Arrives P ro f x cs Q := by
  cases ro with
  | none => obtain ⟨v, w', fr, h1, h2, h3⟩ := k; exact ⟨v, w', fr, h1, h.trans h2, h3⟩
  | some l => exact fun c cs' e => by obtain ⟨v, w', h1, h2⟩ := k c cs' e; exact ⟨v, w', h1, h.trans h2⟩

section
variable {P : Program} {w₀ : World} {G₀ : Gh} {hp₀ : List (Nat × Box)} {G : Gh} {s : St} {a : Act} {w : World}

def resOf (tmps : Array Value) (x : ResultVar) : Sem Value := match x with
  | .tmp t => pure (tmps.getD t undef)
  | .cell a t => do loadVar t (← asAddr (tmps.getD a undef))
omit [LC] in
theorem results_eq (fn : Func) (tmps : Array Value) : results fn tmps = (do let vs ← fn.results.mapM (resOf tmps); pure (if h : vs.size = 1 then vs[0] else .tuple vs)) := rfl
theorem aresult_ok (hr : Rel w₀ G₀ hp₀ G s a w) {x : ResultVar} {v : AV} (hq : resQ P s x = true) (h : aresult P s x = some v) : ∃ u, (resOf a.tmps x).run P w = .ok u w ∧ Rep v G u := by
  cases x with
  | tmp t =>
    obtain ⟨u, h1, h2⟩ := hr.frame t v h
    exact ⟨u, by simp [resOf, Array.getD_eq_getD_getElem?, h1], h2⟩
  | cell t T =>
    simp only [aresult] at h
    split at h
    · rename_i b off hb
      split at h
      · rename_i cs T' hc
        obtain ⟨u, h1, B, hB, rfl⟩ := hr.frame _ _ hb
        obtain ⟨B', vs, k1, k2, k3, _⟩ := hr.fin.mem.holds _ _ hc
        rw [k1] at hB; injection hB with hB; subst hB
        obtain ⟨z, hz, hrz⟩ := run_loadVar' (P := P) (w := w) h (o := 0) k3 (fun j u hu => by rw [Nat.zero_add]; exact cell_of_heap k2 hu)
        rw [Nat.zero_add] at hz
        exact ⟨z, by simp [resOf, Array.getD_eq_getD_getElem?, h1, asAddr, hz], hrz⟩
      · cases h
    · rename_i k sz hb
      split at h
      · rename_i τ l E n hl hagg hn
        simp only [resQ, hb, hl, hn, decide_eq_true_eq] at hq
        cases hbb : τ.is1 && Nat.beq sz 1 <;> rw [hbb] at h <;> simp only [cond_true, cond_false, reduceCtorEq, Option.some.injEq] at h
        subst h
        simp only [Bool.and_eq_true] at hbb
        have hsz : τ.sz = 1 := is1_sz hbb.1
        obtain ⟨u, h1, B, n0, c0, ho, rfl⟩ := hr.frame _ _ hb
        obtain ⟨ad, c', q1, q2⟩ := hr.fin.mem.holds _ _ hl
        rw [ho] at q1; simp only [Option.some.injEq, Prod.mk.injEq] at q1
        obtain ⟨rfl, rfl, rfl⟩ := q1
        rcases q2 with ⟨q2, _⟩ | ⟨g, vs, fz, k1, k2, k3, k4, k5, k6, k7, k8, k9⟩
        · cases q2
        · simp only [Option.some.injEq, Addr.mk.injEq, and_true] at k1
          subst k1
          have hfl : (l.flatMap τ.enc).length = n := by rw [flat_len, hsz, hq, Nat.mul_one]
          have hload : aload P T (l.flatMap τ.enc) 0 = some (.agg (l.flatMap τ.enc)) := by
            unfold aload
            rw [hagg, hn]
            have : Nat.ble (0 + n) (l.flatMap τ.enc).length = true := by rw [hfl, Nat.zero_add]; simp
            simp only [this, cond_true, List.drop_zero]
            rw [List.take_of_length_le (by rw [hfl]; exact Nat.le_refl _)]
          obtain ⟨u, hu, us, rfl, hru⟩ := run_loadVar' (P := P) (w := w) hload (B := B) (o := 0) k7 (fun j u hu => by
            rw [List.getElem?_take] at hu
            split at hu
            · rw [Nat.zero_add]; exact cell_of_heap k2 hu
            · cases hu)
          simp only [Nat.add_zero] at hu
          refine ⟨.agg us, by simp [resOf, Array.getD_eq_getD_getElem?, h1, asAddr, hu], ?_⟩
          have := reps_arr (G := G) hbb.1 hru
          simpa using this
      · cases h
    · cases h
theorem aresults_ok (hr : Rel w₀ G₀ hp₀ G s a w) : ∀ {xs : List ResultVar} {vs : List AV}, resQs P s xs = true → aresults P s xs = some vs →
    ∃ us : List Value, (xs.mapM (resOf a.tmps)).run P w = .ok us w ∧ Reps vs G us
  | [], vs, _, h => by simp only [aresults, Option.some.injEq] at h; subst h; exact ⟨[], by simp, trivial⟩
  | x :: xs, vs, hq, h => by
    simp only [resQs, Bool.and_eq_true] at hq
    simp only [aresults] at h
    split at h
    · rename_i v hv
      split at h
      · rename_i us hus
        simp only [Option.some.injEq] at h; subst h
        obtain ⟨u, hu, hru⟩ := aresult_ok hr hq.1 hv
        obtain ⟨us', hu', hru'⟩ := aresults_ok hr hq.2 hus
        refine ⟨u :: us', ?_, hru, hru'⟩
        rw [List.mapM_cons]
        simp only [Sem.run_bind, hu, Result.andThen_ok, hu', Sem.run_pure]
      · cases h
    · cases h
theorem aret_ok (hr : Rel w₀ G₀ hp₀ G s a w) {fn : Func} {v : AV} (hq : resQs P s fn.results.toList = true) (h : aret P fn s = some v) : ∃ u, (results fn a.tmps).run P w = .ok u w ∧ Rep v G u := by
  unfold aret at h
  have key : ∀ vs, aresults P s fn.results.toList = some vs → ∃ us : List Value, (results fn a.tmps).run P w = .ok (if h : us.toArray.size = 1 then us.toArray[0] else .tuple us.toArray) w ∧ Reps vs G us := fun vs hv => by
    obtain ⟨us, h1, h2⟩ := aresults_ok hr hq hv
    refine ⟨us, ?_, h2⟩
    rw [results_eq, Array.mapM_eq_mapM_toList]
    simp only [Sem.run_bind, Sem.run_map, h1, Result.andThen_ok, Sem.run_pure]
  split at h
  · rename_i vs hv
    obtain ⟨us, h1, h2⟩ := key _ hv
    split at h
    · simp only [Option.some.injEq] at h; subst h
      match us, h2 with
      | [u], h2 => exact ⟨u, by rw [h1]; rfl, h2.1⟩
      | [], h2 => exact h2.elim
      | _ :: _ :: _, h2 => exact h2.2.elim
    · rename_i hne
      simp only [Option.some.injEq] at h; subst h
      refine ⟨.tuple us.toArray, ?_, us.toArray, rfl, by simpa using h2⟩
      rw [h1, dif_neg]
      intro he
      have hl := h2.length
      simp at he
      rw [he] at hl
      match vs, hl, hne with
      | [x], _, hne => exact hne x rfl
  · cases h
theorem Rel.frzC {p : Pt} {b off : Nat} {s : St} {G : Gh} (hr : Rel w₀ G₀ hp₀ G s a w) : ∃ G', Rel w₀ G₀ hp₀ G' (frzC p b off s) a w := by
  unfold Sym.frzC
  split
  · exact hr.frzL
  · exact ⟨G, hr⟩
theorem Rel.coR {bs : List (Nat × BPt)} : ∀ {xs : List ResultVar} {ps : List Pt} {s : St} {G : Gh}, Rel w₀ G₀ hp₀ G s a w → ∃ G', Rel w₀ G₀ hp₀ G' (coR bs xs ps s) a w
  | [], _, s, G, hr => ⟨G, hr⟩
  | x :: xs, ps, s, G, hr => by
    unfold Sym.coR
    split
    · exact ⟨G, hr⟩
    · split
      · obtain ⟨G', hr'⟩ := hr.coF (bs := bs) (l := [(_, _)])
        exact Rel.coR hr'
      · split
        · obtain ⟨G', hr'⟩ := hr.coB1 (bs := bs)
          obtain ⟨G2, hr2⟩ := hr'.frzC
          exact Rel.coR hr2
        · exact Rel.coR hr
theorem finV_ok (hr : Rel w₀ G₀ hp₀ G s a w) {ids : NM} (hid : ∀ n bx, look hp₀ n = some bx → lookN ids n = some n) {v : AV} {p : Pt} {hp : List (Nat × BPt)} {y : p.den × bden hp} (h : finV v ids p hp s = some y) :
    ∃ G', Fin w₀ G₀ hp₀ G' (bput hp y.2) w ∧ ∀ u, Rep v G u → Rep (p.put y.1) G' u := by
  unfold finV at h
  split at h
  · rename_i d nm h1
    split at h
    · rename_i d' nm' h2
      cases hq : distinctOld nm' && allIn nm' hp <;> rw [hq] at h <;> simp only [cond_true, cond_false, reduceCtorEq] at h
      have h := Option.some.inj h; subst h
      simp only [Bool.and_eq_true] at hq
      obtain ⟨g1, g2⟩ := Pt.get_seen h1
      obtain ⟨b1, b2⟩ := bget_seen h2
      obtain ⟨b3, _⟩ := b2 nm' hq.1 (SubN.refl _)
      exact ⟨G.view nm', hr.fin.fit hq.1 (fun n bx hb => b1 _ _ (g1 _ _ (hid n bx hb))) b3, fun u hu => (g2 nm' hq.1 b1).rep hu⟩
    · cases h
  · cases h
/-- what is handed back, and how -/
def RetOk (P : Program) (fn : Func) (rv : Option AV) (a : Act) (w : World) (Q : Value → Prop) : Prop :=
  match rv with
  | none => ∃ u, (results fn a.tmps).run P w = .ok u w ∧ Q u
  | some x => ∀ b, x = .val (.bool b) → Q (.bool b)
theorem finOne_ok (hr : Rel w₀ G₀ hp₀ G s a w) {ids : NM} (hid : ∀ n bx, look hp₀ n = some bx → lookN ids n = some n) {fn : Func} {rv : Option AV} {p : Pt} {hp : List (Nat × BPt)} {y : p.den × bden hp} (hq : finQ P fn ids rv p hp s = true) (h : finOne P fn ids rv p hp s = some y) :
    RetOk P fn rv a w fun u => ∃ G', Fin w₀ G₀ hp₀ G' (bput hp y.2) w ∧ Rep (p.put y.1) G' u := by
  unfold finOne at h
  split at h
  · rename_i x
    obtain ⟨G1, hr1⟩ := hr.coB (bs := hp) (nm := ids) (l := hp)
    obtain ⟨G', h1, h2⟩ := finV_ok hr1 hid h
    exact fun b e => ⟨G', h1, h2 _ (by subst e; rfl)⟩
  · split at h
    · rename_i v hv
      obtain ⟨G1, hr1⟩ := hr.coB (bs := hp) (nm := ids) (l := hp)
      obtain ⟨G2, hr2⟩ := hr1.coR (bs := hp) (xs := fn.results.toList) (ps := ptsOf p)
      obtain ⟨G', h1, h2⟩ := finV_ok hr2 hid h
      obtain ⟨u, hu, hru⟩ := aret_ok hr2 hq hv
      exact ⟨u, hu, G', h1, h2 _ hru⟩
    · cases h
omit [LC] in
theorem RetOk.mono {fn : Func} {rv : Option AV} {Q Q' : Value → Prop} (h : RetOk P fn rv a w Q) (k : ∀ v, Q v → Q' v) : RetOk P fn rv a w Q' := by
  cases rv with
  | none => obtain ⟨u, h1, h2⟩ := h; exact ⟨u, h1, k _ h2⟩
  | some x => exact fun b e => k _ (h b e)
theorem fin_ok (hr : Rel w₀ G₀ hp₀ G s a w) {ids : NM} (hid : ∀ n bx, look hp₀ n = some bx → lookN ids n = some n) {fn : Func} {rv : Option AV} : ∀ {α : Type} {enc : RS α} {x : α}, enc.fin P fn ids rv s = some x →
    RetOk P fn rv a w fun u => ∃ G', Fin w₀ G₀ hp₀ G' (enc.res x).2 w ∧ Rep (enc.res x).1 G' u
  | _, .one p hp to fro ok, x, h => by
    simp only [RS.fin] at h
    cases hq : finQ P fn ids rv p hp s <;> rw [hq] at h <;> simp only [cond_true, cond_false, reduceCtorEq] at h
    split at h
    · rename_i y hy
      have h := Option.some.inj h; subst h
      have := finOne_ok (P := P) hr hid hq hy
      simp only [RS.res, ok]
      exact this
    · cases h
  | _, .two l r, x, h => by
    simp only [RS.fin] at h
    split at h
    · rename_i y hy
      have h := Option.some.inj h; subst h
      have := fin_ok (enc := l) hr hid hy
      exact this
    · split at h
      · rename_i y hy
        have h := Option.some.inj h; subst h
        have := fin_ok (enc := r) hr hid hy
        exact this
      · cases h
theorem closeDf_ok : ∀ {ns : List Nat} {s s' : St} {G : Gh} {a : Act} {w : World}, s.df = ns → closeDf ns s = some s' → Rel w₀ G₀ hp₀ G s a w → ∀ (fr : Frame) (cs : List Frame), fr.mode = .returning → fr.defers = a.defers →
    ∃ w', Rel w₀ G₀ hp₀ G s' { a with defers := [] } w' ∧ Steps P (lone fr cs w) (lone { fr with defers := [] } cs w')
  | [], s, s', G, a, w, hd, h, hr, fr, cs, hm, hfd => by
    simp only [closeDf, Option.some.injEq] at h; subst h
    obtain ⟨bs, h1, h2⟩ := hr.defers
    rw [hd] at h2
    have : bs = [] := by cases bs with
      | nil => rfl
      | cons _ _ => simp at h2
    subst this
    refine ⟨w, ⟨⟨[], rfl, rfl⟩, hr.size, hr.frame, hr.fresh, hr.fin⟩, ?_⟩
    have e : ({ fr with defers := [] } : Frame) = fr := by rw [← show fr.defers = [] by rw [hfd, h1]; rfl]
    rw [e]
    exact .refl _ _
  | n :: ns, s, s', G, a, w, hd, h, hr, fr, cs, hm, hfd => by
    simp only [closeDf] at h
    split at h
    · rename_i hl
      obtain ⟨bs, h1, h2⟩ := hr.defers
      rw [hd] at h2
      cases bs with
      | nil => simp at h2
      | cons b bs =>
        simp only [List.map_cons, List.cons.injEq] at h2
        obtain ⟨B, k1, k2, k3⟩ := hr.fin.mem.holds n _ hl
        rw [k1] at h2; obtain ⟨e, h2⟩ := h2; injection e with e; subst e
        have hr1 := hr.setBox (bx' := .dead) (o := .deferred none) hl (show G.at n .dfr = some b from k1) (fun c hc => by cases hc) trivial k3
        have hr2 : Rel w₀ G₀ hp₀ G { s with hp := (n, .dead) :: s.hp, df := ns } { a with defers := bs.map (fun b => { target := .collected b, args := #[] }) } (w.putObj b (.deferred none)) :=
          ⟨⟨bs, rfl, h2⟩, hr1.size, hr1.frame, hr1.fresh, hr1.fin⟩
        have hs := step_collected (P := P) (cs := cs) (fr := fr) (by rw [hm]; simp) (by rw [hfd, h1]; rfl) rfl (run_takeDeferred k2)
        obtain ⟨w', i1, i2⟩ := closeDf_ok (a := { a with defers := bs.map (fun b => { target := .collected b, args := #[] }) }) rfl h hr2 { fr with defers := [] ++ bs.map (fun b => { target := .collected b, args := #[] }) } cs hm rfl
        exact ⟨w', i1, (Steps.one hs).trans i2⟩
    · cases h
end
end Go.Sym
/- Loops over functions: the statement. -/
namespace Go.Sym
open Go.RowKit
variable [LC]

structure Cx.Ok (cx : Cx) (body : Code) : Prop where
  ents : ∀ e ∈ cx.tb.ents, e.Sound cx.P
  mixed : cx.P.follows .mixedOrders = true
  func : cx.P.funcs[cx.f]? = some cx.fn
  tags : ∀ p t, lookT p cx.tags = some t → ∀ g ps x y, sub body p = .rangeFunc g ps x y → LC.lc t = some (x, y)
def RdOk (cx : Cx) (G₀ : Gh) (hp₀ : List (Nat × Box)) (b : Frame) : Prop := match cx.rd with
  | none => b.roundOf = none
  | some m => ∃ B bx, G₀.box m = some B ∧ look hp₀ m = some bx ∧ b.roundOf = some B

section
variable {w₀ : World} {G₀ : Gh} {hp₀ : List (Nat × Box)} {G : Gh} {s : St} {a : Act} {w : World}
omit [LC] in
theorem run_enterLoop_inner {P : Program} (fn : FuncId) (tmps : Array Value) (ps : Array Tmp) (asn bo : Code) {l : Nat} {r : Loop} (h : w.heap[l]? = some (.loop r)) :
    (Instr.enterLoop fn tmps ps asn bo (some l)).run P w = .ok (w.heap.size, []) (w.alloc (.loop { state := .ready, pending := none, fn, tmps, params := ps, assign := asn, body := bo, defers := r.defers })) := by
  unfold Instr.enterLoop
  simp only [Sem.run_bind, run_getLoop h, run_newObj_alloc, Result.andThen, Sem.run_pure]
theorem loop_ok (hr : Rel w₀ G₀ hp₀ G s a w) {k D DB : Nat} {f : FuncId} {ps : Array Tmp} {tag : Nat} {asn bo : Code} (htag : LC.lc tag = some (asn, bo)) (hk : look s.hp k = none) (hkx : s.nx ≤ k) (hD : G.box D = some DB) (hne : D ≠ k) :
    Rel w₀ G₀ hp₀ (G.addBox k w.heap.size) { s with hp := (k, .loop .ready none f s.n s.fr ps.toList tag D) :: s.hp } a (w.alloc (.loop { state := .ready, pending := none, fn := f, tmps := a.tmps, params := ps, assign := asn, body := bo, defers := DB })) := by
  have hle : G.le (G.addBox k w.heap.size) := Gh.addBox_le (hr.fresh k hkx hk).1
  refine hr.newBox hk hkx (fun b hb => ?_) ⟨w.heap.size, a.tmps, DB, Gh.addBox_self, by rw [Gh.addBox_ne hne]; exact hD, ⟨asn, bo, htag, ?_⟩, hr.size, fun i x hx => ?_, fun o => ?_⟩
  · have hb : (G.addBox k w.heap.size).box k = some b := hb
    rw [Gh.addBox_self] at hb; injection hb with hb; exact hb.symm
  · rw [heap_alloc_top]; simp
  · obtain ⟨v, h1, h2⟩ := hr.frame i x hx; exact ⟨v, h1, h2.le hle⟩
  · cases hq : (G.addBox k w.heap.size).imm w.heap.size o with
    | none => rfl
    | some v =>
      have := World.block_lt_of_cell? _ _ (hr.fin.mem.agree _ _ _ hq)
      simp at this
theorem Rel.nx (hr : Rel w₀ G₀ hp₀ G s a w) {k : Nat} (h : s.nx ≤ k) : Rel w₀ G₀ hp₀ G { s with nx := k } a w := ⟨hr.defers, hr.size, hr.frame, fun m hm hl => hr.fresh m (Nat.le_trans h hm) hl, hr.fin⟩
/-- the loop is entered -/
theorem enterRF_ok (hr : Rel w₀ G₀ hp₀ G s a w) {cx : Cx} {ps : Array Tmp} {tag : Nat} {asn bo : Code} (htag : LC.lc tag = some (asn, bo)) {s1 : St} (h : s.enterRF cx.f ps.toList tag cx.rd = some s1) {b : Frame} (hb : b.fn = cx.f) (hrd : RdOk cx G₀ hp₀ b) :
    ∃ G1 l mark w1, (Instr.enterLoop b.fn a.tmps ps asn bo b.roundOf).run cx.P w = .ok (l, mark) w1 ∧ G1.box s.nx = some l ∧ G.le G1 ∧ Rel w₀ G₀ hp₀ G1 s1 { a with defers := mark ++ a.defers } w1 ∧ s1.nx = s.nx + 32 := by
  unfold St.enterRF at h
  cases hn : noRange s.nx s.hp <;> rw [hn] at h <;> simp only [cond_true, cond_false, reduceCtorEq] at h
  have hk0 := noRange_look hn s.nx (Nat.le_refl _) (by omega)
  have hk1 := noRange_look hn (s.nx + 1) (by omega) (by omega)
  unfold RdOk at hrd
  split at h
  · rename_i hc
    rw [hc] at hrd
    simp only at hrd
    simp only [Option.some.injEq] at h; subst h
    have hr1 := hr.newBox (k := s.nx + 1) (bx := .dfr) (o := .deferred (some [])) hk1 (by omega) (fun b hb => by
      have hb : (G.addBox (s.nx + 1) w.heap.size).box (s.nx + 1) = some b := hb
      rw [Gh.addBox_self] at hb; injection hb with hb; exact hb.symm)
      ⟨w.heap.size, Gh.addBox_self, heap_alloc_top _ _, fun o => by
        cases hq : (G.addBox (s.nx + 1) w.heap.size).imm w.heap.size o with
        | none => rfl
        | some v =>
          have := World.block_lt_of_cell? _ _ (hr.fin.mem.agree _ _ _ hq)
          simp at this⟩
    have hk0' : look ((s.nx + 1, Box.dfr) :: s.hp) s.nx = none := by
      simp only [look]
      have : Nat.beq (s.nx + 1) s.nx = false := by
        cases hq : Nat.beq (s.nx + 1) s.nx
        · rfl
        · have := Nat.eq_of_beq_eq_true hq; omega
      rw [this]; exact hk0
    have hr2 := loop_ok hr1 (k := s.nx) (D := s.nx + 1) (f := cx.f) (ps := ps) htag hk0' (Nat.le_refl _) Gh.addBox_self (by omega)
    have hle1 : G.le (G.addBox (s.nx + 1) w.heap.size) := Gh.addBox_le (hr.fresh (s.nx + 1) (by omega) hk1).1
    have hle2 : (G.addBox (s.nx + 1) w.heap.size).le ((G.addBox (s.nx + 1) w.heap.size).addBox s.nx (w.alloc (.deferred (some []))).heap.size) := Gh.addBox_le (hr1.fresh s.nx (Nat.le_refl _) hk0').1
    refine ⟨_, w.heap.size + 1, [{ target := .collected w.heap.size, args := #[] }], _, by rw [hrd, hb]; exact run_enterLoop_outer _ _ _ _ _, ?_, hle1.trans hle2, ?_, rfl⟩
    · rw [Gh.addBox_self, World.size_alloc]
    · have hr3 := hr2.nx (k := s.nx + 32) (by show s.nx ≤ _; omega)
      refine ⟨?_, hr3.size, hr3.frame, hr3.fresh, hr3.fin⟩
      obtain ⟨bs, h1, h2⟩ := hr3.defers
      refine ⟨w.heap.size :: bs, by rw [h1]; rfl, ?_⟩
      simp only [List.map_cons, List.cons.injEq]
      refine ⟨?_, h2⟩
      rw [Gh.addBox_ne (by omega), Gh.addBox_self]
  · rename_i m hc
    rw [hc] at hrd
    simp only at hrd
    obtain ⟨B, bx0, e1, e2, e3⟩ := hrd
    split at h
    · rename_i D hm
      simp only [Option.some.injEq] at h; subst h
      obtain ⟨B', tmps, DB, k1, k2, ⟨asn', bo', _, k3⟩, _⟩ := hr.fin.mem.holds _ _ hm
      have := hr.fin.keep m bx0 B e2 e1
      rw [this] at k1; injection k1 with k1; subst k1
      have hne : D ≠ s.nx := fun e => by subst e; rw [(hr.fresh _ (Nat.le_refl _) hk0).1] at k2; cases k2
      have hr2 := loop_ok hr (k := s.nx) (D := D) (f := cx.f) (ps := ps) htag hk0 (Nat.le_refl _) k2 hne
      have hle2 : G.le (G.addBox s.nx w.heap.size) := Gh.addBox_le (hr.fresh s.nx (Nat.le_refl _) hk0).1
      refine ⟨_, w.heap.size, [], _, by rw [e3, hb]; exact run_enterLoop_inner _ _ _ _ _ k3, Gh.addBox_self, hle2, ?_, rfl⟩
      exact hr2.nx (k := s.nx + 32) (by show s.nx ≤ _; omega)
    · cases h
end
end Go.Sym
/- The whole of a body: what is emitted is what the machine does. -/
namespace Go.Sym
open Go.RowKit
variable [LC]

def jcode : Option Jmp → List Item
  | none => []
  | some j => [.code j.code]
section
variable {w₀ : World} {G₀ : Gh} {hp₀ : List (Nat × Box)} {G : Gh} {s : St} {a : Act} {w : World} {cx : Cx} {body : Code} {R : Type}

theorem rfGo_ok (ok : cx.Ok body) (hr : Rel w₀ G₀ hp₀ G s a w) {p : List Nat} {g : Operand} {ps : Array Tmp} {asn bo : Code} (hsub : sub body p = .rangeFunc g ps asn bo) {q : Rq × St × List AV} (hq : rfAsk cx p g ps.toList s = some q)
    {K : Option Jmp → St → Option R} {x : R} (h : rfGo s.nx q K = some x) {b : Frame} (cs : List Frame) (hb : b.fn = cx.f) (_hkind : b.kind = .normal) (hrd : RdOk cx G₀ hp₀ b) (k : List Item) :
    ∃ j s' G' a' w', K j s' = some x ∧ Rel w₀ G₀ hp₀ G' s' a' w' ∧ Steps cx.P (lone (b.atR a (.code (.rangeFunc g ps asn bo) :: k)) cs w) (lone (b.atR a' (jcode j ++ k)) cs w') := by
  unfold rfAsk at hq
  split at hq
  · rename_i tag h0 cap ht hg
    split at hq
    · rename_i s1 hs1
      split at hq
      · rename_i q1 hq1
        have hq := Option.some.inj hq; subst hq
        obtain ⟨G1, l, mark, w1, he, hl, hle, hr1, hnx⟩ := enterRF_ok hr (ok.tags p tag ht g ps asn bo hsub) hs1 hb hrd
        unfold rfGo at h
        obtain ⟨d, hd, h⟩ := Rq.K_some h
        simp only at h hd
        obtain ⟨e, hemem, hc⟩ := firstQ_mem hq1
        unfold callMQ at hc
        cases hkk : keyIs h0 e.key <;> rw [hkk] at hc <;> simp only [cond_true, cond_false, reduceCtorEq] at hc
        obtain ⟨N, x1, x1', y, k1, k2, k3, k4, k5, k6⟩ := memQ_ok hc hd
        subst k2
        have hs := ok.ents e hemem x1 x1' y k1
        rw [keyIs_eq hkk] at hs
        obtain ⟨hpl, hct⟩ := hs
        unfold rfCall at h
        simp only at h
        cases hbb : distinctOld N && distinctNew N && noRange s1.nx s1.hp <;> rw [hbb] at h <;> simp only [cond_true, cond_false, reduceCtorEq] at h
        simp only [Bool.and_eq_true] at hbb
        obtain ⟨⟨hb1, _⟩, hb2⟩ := hbb
        cases hv : viewHp (rho N) s1.hp N with
        | none => rw [hv] at h; simp only [reduceCtorEq] at h
        | some hpv =>
        cases hvs : vws false [] (AV.rens (rho N) (.yld s.nx :: cap)) (Pts.put e.args x1) with
        | none => rw [hv, hvs] at h; simp only [reduceCtorEq] at h
        | some ps1 =>
        rw [hv, hvs] at h
        simp only at h
        cases hvw : vwHp hpv (bput e.hp x1') with
        | none => rw [hvw] at h; simp only [reduceCtorEq] at h
        | some ps2 =>
        rw [hvw] at h
        simp only at h
        have p1 := k5 _ hvs
        have p2 := k6 _ _ hv hvw
        obtain ⟨fs, cps, hge, hfs, hcs⟩ := ev_ok hr hg
        have hfs0 : fs = #[] := Array.eq_empty_of_size_eq_zero (by simpa using hfs.length.symm)
        subst hfs0
        have hge' : ({ a with defers := mark ++ a.defers } : Act).eval g = .func (.func h0) #[] cps := hge
        have hres : (resolve a.eval (rangeCall g l) 0).run cx.P w1 = .ok { target := .fn (.func h0) cps, args := #[.func (.yield l) #[] #[]] } w1 := by
          have hy : a.eval (.const (.func (.yield l) #[] #[])) = .func (.yield l) #[] #[] := rfl
          simp [resolve, hge, Deferred.ofValue, hy]
        have hinv : (invoke (.fn (.func h0) cps) #[.func (.yield l) #[] #[]]).run cx.P w1 = .ok (.enter h0 (#[.func (.yield l) #[] #[]] ++ cps)) w1 := by
          simp [invoke, hpl _ w1]
        have henter := stepR_rangeFunc (P := cx.P) (b := b) (a := a) (k := k) (cs := cs) he hres hinv
        have hreps : Reps (.yld s.nx :: cap) G1 (.func (.yield l) #[] #[] :: cps.toList) := ⟨⟨l, hl, rfl⟩, hcs.le hle⟩
        have hm : Mem (G1.view N) (bput e.hp x1') w1 := (hr1.fin.mem.view hv (distinctOld_spec hb1)).vw hvw p2
        have hreps2 := vws_ok (Gh.le.refl _) (fun e => by cases e) hvs p1 (Reps.ren (G := G1) (G' := G1.view N) (fun _ _ _ h => h) (view_box N) (view_own N) hreps)
        have hcalls := hct w1 (G1.view N) _ hm hreps2
        have e1 : (Value.func (.yield l) #[] #[] :: cps.toList).toArray = #[.func (.yield l) #[] #[]] ++ cps := by simp
        rw [e1] at hcalls
        obtain ⟨en, w2, fr, hpost, hcomes, hfrfn, hleave⟩ := hcalls (b.atR { a with defers := mark ++ a.defers } (.inRangeFunc l :: k) :: cs)
        obtain ⟨G2, v, rfl, _, hle2, hr2⟩ := mem_fin hr1 hb1 hb2 (Nat.le_refl _) hv hvw p2 hpost
        have hsteps : Steps cx.P (lone (b.atR a (.code (.rangeFunc g ps asn bo) :: k)) cs w) (lone (b.atR { a with defers := mark ++ a.defers } (.endRangeFunc l :: k)) cs w2) := by
          refine (Steps.one henter).trans (Steps.trans hcomes (.one ?_))
          rw [← finish_atR_inRangeFunc l v]; exact step_leave_returned hleave
        split at h
        · rename_i st pe f' n' fr' ps' tag' D' hlk
          cases hnb : notBusy st <;> rw [hnb] at h <;> simp only [cond_true, cond_false, reduceCtorEq] at h
          obtain ⟨B, tmps, DB, i1, i2, ⟨asn', bo', _, i3⟩, i4, i5, i6⟩ := hr2.fin.mem.holds _ _ hlk
          have := hle2.box _ _ hl
          rw [this] at i1; injection i1 with i1; subst i1
          have hend := run_endLoop (P := cx.P) i3 (by intro e; simp only at e; subst e; cases hnb)
          have hst := stepR_endRangeFunc (b := b) (a := { a with defers := mark ++ a.defers }) (k := k) (cs := cs) hend
          have e2 : (Option.map Item.code (Option.map Jmp.code pe)).toList = jcode pe := by cases pe <;> rfl
          rw [e2] at hst
          exact ⟨pe, _, G2, { a with defers := mark ++ a.defers }, _, h, (hr2.nx (k := s1.nx + 32) (Nat.le_add_right _ _)).setBox (bx' := .dead) hlk (show G2.at s.nx (.loop st pe f' n' fr' ps' tag' D') = some l from this) (fun c hc => by cases hc) trivial i6, hsteps.trans (.one hst)⟩
        · cases h
      · cases hq
    · cases hq
  · cases hq
theorem rfR_ok (ok : cx.Ok body) (hr : Rel w₀ G₀ hp₀ G s a w) {p : List Nat} {g : Operand} {ps : Array Tmp} {asn bo : Code} (hsub : sub body p = .rangeFunc g ps asn bo)
    {K : Option Jmp → St → Option R} {x : R} (h : rfR cx p g ps.toList s K = some x) {b : Frame} (cs : List Frame) (hb : b.fn = cx.f) (hkind : b.kind = .normal) (hrd : RdOk cx G₀ hp₀ b) (k : List Item) :
    ∃ j s' G' a' w', K j s' = some x ∧ Rel w₀ G₀ hp₀ G' s' a' w' ∧ Steps cx.P (lone (b.atR a (.code (.rangeFunc g ps asn bo) :: k)) cs w) (lone (b.atR a' (jcode j ++ k)) cs w') := by
  unfold rfR at h
  split at h
  · rename_i q hq
    exact rfGo_ok ok hr hsub hq h cs hb hkind hrd k
  · split at h
    · rename_i s' hs'
      have : ∃ G', Rel w₀ G₀ hp₀ G' s' a w := by
        unfold rfPre at hs'
        split at hs'
        · split at hs'
          · split at hs'
            · have hs' := Option.some.inj hs'; subst hs'
              obtain ⟨G1, hr1⟩ := hr.frzL
              exact hr1.coB
            · cases hs'
          · cases hs'
        · cases hs'
      obtain ⟨G', hr'⟩ := this
      split at h
      · rename_i q hq
        exact rfGo_ok ok hr' hsub hq h cs hb hkind hrd k
      · cases h
    · cases h

def Goes (cx : Cx) (hp₀ : List (Nat × Box)) {R : Type} (enc : RS R) (k : List Item) (s : St) (r : R) : Prop :=
  ∀ (w₀ : World) (G₀ G : Gh) (a : Act) (w : World), Rel w₀ G₀ hp₀ G s a w → ∀ (b : Frame) (cs : List Frame), b.fn = cx.f → b.kind = .normal → RdOk cx G₀ hp₀ b →
    Arrives cx.P b.roundOf cx.f (lone (b.atR a k) cs w) cs fun v w' => ∃ G', Fin w₀ G₀ hp₀ G' (enc.res r).2 w' ∧ Rep (enc.res r).1 G' v
/-- where a body ends -/
def AtEnd (cx : Cx) (j : Option Jmp) (k : List Item) : Prop := match j with
  | none => k = []
  | some .ret => ∃ k', k = .code .ret :: k'
  | some (.exit id) => cx.rd ≠ none ∧ ∃ k', k = .code (.exit id) :: k' ∧ exitTo id k' = none
theorem endq_ok (ok : cx.Ok body) (hid : ∀ n bx, look hp₀ n = some bx → lookN cx.ids n = some n) {enc : RS R} {j : Option Jmp} {r : R} {k : List Item} (hk : AtEnd cx j k) (h : endq cx enc j s = some r) : Goes cx hp₀ enc k s r := by
  intro w₀ G₀ G a w hr b cs hb hkind hrd
  unfold endq at h
  unfold RdOk at hrd
  split at h
  · rename_i hrdn
    rw [hrdn] at hrd
    simp only at hrd
    split at h
    · rename_i s' hs'
      have h1 : Steps cx.P (lone (b.atR a k) cs w) (lone { b.atR a k with mode := .returning } cs w) := by
        cases j with
        | none => simp only [AtEnd] at hk; subst hk; exact .one (stepR_end hrd)
        | some j => cases j with
          | ret => obtain ⟨k', rfl⟩ := hk; exact .one (stepR_ret hrd)
          | exit id => exact absurd hrdn hk.1
      obtain ⟨w', i1, i2⟩ := closeDf_ok (P := cx.P) rfl hs' hr { b.atR a k with mode := .returning } cs rfl rfl
      obtain ⟨u, u1, u2⟩ := fin_ok (P := cx.P) i1 hid h
      rw [hrd]
      exact ⟨u, w', _, u2, h1.trans i2, hb, rfl, rfl, hkind, cx.fn, by rw [← ok.func, ← hb]; rfl, u1⟩
    · cases h
  · rename_i m hrdm
    rw [hrdm] at hrd
    simp only at hrd
    obtain ⟨B, bx0, e1, e2, e3⟩ := hrd
    cases hd : s.noDf <;> rw [hd] at h <;> simp only [cond_true, cond_false, reduceCtorEq] at h
    split at h
    · rename_i st pe f n fr ps tag D hl
      obtain ⟨B', tmps, DB, i1, i2, ⟨asn, bo, i3, i4⟩, i5, i6, i7⟩ := hr.fin.mem.holds _ _ hl
      have := hr.fin.keep m bx0 B e2 e1
      rw [this] at i1; injection i1 with i1; subst i1
      have hend := run_endRound (P := cx.P) (j.map Jmp.code) i4
      have hiso : (j.map Jmp.code).isNone = isNo j := by cases j <;> rfl
      rw [hiso] at hend
      have hst : (if isNo j = true then LoopState.ready else LoopState.done) = (bif isNo j then LoopState.ready else LoopState.done) := by cases isNo j <;> rfl
      rw [hst] at hend
      have hr2 := hr.setBox (bx' := .loop (bif isNo j then .ready else .done) j f n fr ps tag D) (o := .loop { state := bif isNo j then .ready else .done, pending := j.map Jmp.code, fn := f, tmps := tmps, params := ps.toArray, assign := asn, body := bo, defers := DB }) hl (show G.box m = some B from this)
        (fun c hc => by have hc : G.box m = some c := hc; rw [this] at hc; injection hc with hc; exact hc.symm)
        ⟨B, tmps, DB, this, i2, ⟨asn, bo, i3, by rw [World.putObj_heap_same (Array.getElem?_eq_some_iff.1 i4).1]⟩, i5, i6, i7⟩ i7
      have hfin := fin_ok (P := cx.P) hr2 hid h
      rw [e3]
      intro c cs' hcs
      subst hcs
      refine ⟨.bool (isNo j), _, hfin _ rfl, .one ?_⟩
      cases j with
      | none => simp only [AtEnd] at hk; subst hk; exact stepR_round_end e3 hkind hend
      | some j => cases j with
        | ret => obtain ⟨k', rfl⟩ := hk; exact stepR_round_ret e3 hkind hend
        | exit id => obtain ⟨_, k', rfl, hx⟩ := hk; exact stepR_round_exit e3 hkind hx hend
    · cases h
end
end Go.Sym
/- A body: what is emitted is what the machine does. -/
namespace Go.Sym
open Go.RowKit
variable [LC]

section
variable {hp₀ : List (Nat × Box)} {s : St} {cx : Cx} {body : Code} {R : Type} {enc : RS R}

theorem Goes.via {k k' : List Item} {s' : St} {r : R} (h : Goes cx hp₀ enc k' s' r) (hs : ∀ w₀ G₀ G a w, Rel w₀ G₀ hp₀ G s a w → ∀ (b : Frame) (cs : List Frame), b.fn = cx.f → b.kind = .normal → RdOk cx G₀ hp₀ b →
    ∃ G' a' w', Rel w₀ G₀ hp₀ G' s' a' w' ∧ Steps cx.P (lone (b.atR a k) cs w) (lone (b.atR a' k') cs w')) : Goes cx hp₀ enc k s r := by
  intro w₀ G₀ G a w hr b cs hb hk hrd
  obtain ⟨G', a', w', h1, h2⟩ := hs w₀ G₀ G a w hr b cs hb hk hrd
  exact (h w₀ G₀ G' a' w' h1 b cs hb hk hrd).head h2
theorem Goes.one {k k' : List Item} {r : R} (h : Goes cx hp₀ enc k' s r) (hs : ∀ (a : Act) (w : World) (b : Frame) (cs : List Frame), step cx.P (lone (b.atR a k) cs w) = .next (lone (b.atR a k') cs w)) : Goes cx hp₀ enc k s r :=
  h.via fun _ _ G a w hr b cs _ _ _ => ⟨G, a, w, hr, .one (hs a w b cs)⟩
def LabOk (cx : Cx) (hp₀ : List (Nat × Box)) {R : Type} (enc : RS R) (body : Code) (l : Lab R) : Prop := ∀ d r, l.F d = some r → Goes cx hp₀ enc (items (itemsAt body l.key)) (l.ls.st d) r
omit [LC] in
theorem pickLab_mem {ids : NM} {s : St} {k : List PIt} : ∀ {ls : List (Lab R)} {l : Lab R}, pickLab ids s k ls = some l → l ∈ ls ∧ eqKey l.key k = true
  | [], _, h => by cases h
  | x :: xs, l, h => by
    simp only [pickLab] at h
    cases hb : eqKey x.key k <;> rw [hb] at h <;> simp only [cond_true, cond_false] at h
    · obtain ⟨h1, h2⟩ := pickLab_mem h
      exact ⟨List.mem_cons_of_mem _ h1, h2⟩
    · split at h
      · simp only [Option.some.injEq] at h; subst h; exact ⟨List.mem_cons_self, hb⟩
      · rename_i l' hl
        split at h
        · simp only [Option.some.injEq] at h; subst h; exact ⟨List.mem_cons_self, hb⟩
        · simp only [Option.some.injEq] at h; subst h
          obtain ⟨h1, h2⟩ := pickLab_mem hl
          exact ⟨List.mem_cons_of_mem _ h1, h2⟩
omit [LC] in
theorem findLab_mem {k : List PIt} : ∀ {ls : List (Lab R)} {l : Lab R}, findLab k ls = some l → l ∈ ls ∧ eqKey l.key k = true
  | [], _, h => by cases h
  | x :: xs, l, h => by
    simp only [findLab] at h
    cases hb : eqKey x.key k <;> rw [hb] at h <;> simp only [cond_true, cond_false, Option.some.injEq] at h
    · obtain ⟨h1, h2⟩ := findLab_mem h
      exact ⟨List.mem_cons_of_mem _ h1, h2⟩
    · subst h; exact ⟨List.mem_cons_self, hb⟩
omit [LC] in
theorem ok_cons {i : PIt} {k : List PIt} (h : ∀ x ∈ i :: k, x.Ok body) : i.Ok body ∧ ∀ x ∈ k, x.Ok body := ⟨h _ List.mem_cons_self, fun x hx => h x (List.mem_cons_of_mem _ hx)⟩
omit [LC] in
theorem cons_ok {i : PIt} {k : List PIt} (h : i.Ok body) (k' : ∀ x ∈ k, x.Ok body) : ∀ x ∈ i :: k, x.Ok body := fun x hx => by
  rcases List.mem_cons.1 hx with rfl | hx
  · exact h
  · exact k' x hx
omit [LC] in
theorem code_sub {kd : Nat} {p : List Nat} {c : Code} (h : (PIt.mk kd p (.code c)).Ok body) : sub body p = c := itemAt_code h
omit [LC] in
theorem child_ok {p : List Nat} {c : Code} (i : Nat) {x : Code} (h : sub body p = c) (hc : child i c = x) : (PIt.mk 0 (i :: p) (.code x)).Ok body := by
  show Item.code x = .code (child i (sub body p))
  rw [h, hc]
omit [LC] in
theorem block_ok {p : List Nat} {id : Nat} {x : Code} (h : sub body p = .block id x) : (PIt.mk 1 p (.inBlock id)).Ok body := by
  show Item.inBlock id = (match sub body p with | .block id _ => .inBlock id | c => .code c)
  rw [h]
omit [LC] in
theorem loop_item_ok {p : List Nat} {x : Code} (h : sub body p = .loop x) : (PIt.mk 2 p (.inLoop x)).Ok body := by
  show Item.inLoop x = (match sub body p with | .loop x => .inLoop x | c => .code c)
  rw [h]
omit [LC] in
theorem stepR_inScope {P : Program} {b : Frame} {a : Act} {k : List Item} {cs : List Frame} {w : World} {x : Code} : step P (lone (b.atR a (.inScope x :: k)) cs w) = .next (lone (b.atR a k) cs w) :=
  step_lone_go (by simp [stepG, stepG.exec, Frame.atR])
omit [LC] in
theorem stepR_scope {P : Program} {b : Frame} {a : Act} {k : List Item} {cs : List Frame} {w : World} {c : Code} :
    step P (lone (b.atR a (.code (.scope c) :: k)) cs w) = .next (lone (b.atR a (.code c :: .inScope c :: k)) cs w) :=
  step_lone_go (by simp [stepG, stepG.exec, Frame.atR])
omit [LC] in
theorem scope_item_ok {p : List Nat} {x : Code} (h : sub body p = .scope x) : (PIt.mk 3 p (.inScope x)).Ok body := by
  show Item.inScope x = (match sub body p with | .scope x => .inScope x | c => .code c)
  rw [h]
omit [LC] in
theorem exitP_none {id : Nat} : ∀ {k : List PIt}, exitP id k = none → (∀ i ∈ k, i.Ok body) → exitTo id (items k) = none
  | [], _, _ => rfl
  | ⟨kd, p, it⟩ :: k, h, hk => by
    simp only [exitP] at h
    have hk' := (ok_cons hk).2
    split at h
    · rename_i id'
      split at h
      · cases h
      · rename_i he
        simp only [items, exitTo]; rw [if_neg he]; exact exitP_none h hk'
    · rename_i hne
      have := exitP_none h hk'
      simp only [items]
      cases it <;> first
        | (exfalso; exact hne _ rfl)
        | (simp only [exitTo]; exact this)
abbrev IH (cx : Cx) (hp₀ : List (Nat × Box)) {R : Type} (enc : RS R) (body : Code) (labs : List (Lab R)) (n : Nat) : Prop :=
  ∀ (chk : Bool) (k : List PIt) (s : St) (r : R), (∀ i ∈ k, i.Ok body) → run cx enc labs n chk k s = some r → Goes cx hp₀ enc (items k) s r
def runCode (cx : Cx) {R : Type} (enc : RS R) (labs : List (Lab R)) (n : Nat) (p : List Nat) (k' : List PIt) (s : St) (c : Code) : Option R := match c with
  | .skip => run cx enc labs n true k' s
  | .label _ => run cx enc labs n true k' s
  | .seq x y => run cx enc labs n true (⟨0, 0 :: p, .code x⟩ :: ⟨0, 1 :: p, .code y⟩ :: k') s
  | .cond c x y => match s.ev c with
    | some (.bool b) => bif b then run cx enc labs n true (⟨0, 0 :: p, .code x⟩ :: k') (s.know c true) else run cx enc labs n true (⟨0, 1 :: p, .code y⟩ :: k') (s.know c false)
    | some (.val (.bool b)) => bif b then run cx enc labs n true (⟨0, 0 :: p, .code x⟩ :: k') s else run cx enc labs n true (⟨0, 1 :: p, .code y⟩ :: k') s
    | _ => none
  | .block id x => run cx enc labs n true (⟨0, 0 :: p, .code x⟩ :: ⟨1, p, .inBlock id⟩ :: k') s
  | .loop x => run cx enc labs n true (⟨0, 0 :: p, .code x⟩ :: ⟨2, p, .inLoop x⟩ :: k') s
  | .scope x => run cx enc labs n true (⟨0, 0 :: p, .code x⟩ :: ⟨3, p, .inScope x⟩ :: k') s
  | .exit id => match exitP id k' with
    | some k'' => run cx enc labs n true k'' s
    | none => match cx.rd with
      | some _ => endq cx enc (some (.exit id)) s
      | none => none
  | .region _ ops d => bif d then drawX cx.P cx.tb ops s (fun s' => run cx enc labs n true k' s'.bump) else opsR cx.P cx.tb ops ops.toList s (fun s' => run cx enc labs n true k' s'.bump)
  | .ret => endq cx enc (some .ret) s
  | .rangeFunc g ps _ _ => rfR cx p g ps.toList s fun j s' => match j with
    | none => run cx enc labs n true k' s'
    | some .ret => endq cx enc (some .ret) s'
    | some (.exit id) => match exitP id k' with
      | some k'' => run cx enc labs n true k'' s'
      | none => match cx.rd with
        | some _ => endq cx enc (some (.exit id)) s'
        | none => none
  | _ => none
theorem run_cond {labs : List (Lab R)} {n : Nat} (ih : IH cx hp₀ enc body labs n) {p : List Nat} {k' : List PIt} {c : Operand} {x y : Code} {r : R} (hsub : sub body p = .cond c x y) (hk' : ∀ i ∈ k', i.Ok body) (h : runCode cx enc labs n p k' s (.cond c x y) = some r) : Goes cx hp₀ enc (.code (.cond c x y) :: items k') s r := by
  unfold runCode at h
  simp only at h
  split at h
  · rename_i t ht
    cases t <;> simp only [cond_true, cond_false] at h
    · refine (ih true _ _ r (cons_ok (child_ok 1 hsub rfl) hk') h).via fun w₀ G₀ G a w hr b cs _ _ _ => ?_
      have he : a.eval c = .bool false := ev_ok hr ht
      exact ⟨G, a, w, hr.know he, .one (stepR_cond he)⟩
    · refine (ih true _ _ r (cons_ok (child_ok 0 hsub rfl) hk') h).via fun w₀ G₀ G a w hr b cs _ _ _ => ?_
      have he : a.eval c = .bool true := ev_ok hr ht
      exact ⟨G, a, w, hr.know he, .one (stepR_cond he)⟩
  · rename_i t ht
    cases t <;> simp only [cond_true, cond_false] at h
    · refine (ih true _ _ r (cons_ok (child_ok 1 hsub rfl) hk') h).via fun w₀ G₀ G a w hr b cs _ _ _ => ?_
      have he : a.eval c = .bool false := ev_ok hr ht
      exact ⟨G, a, w, hr, .one (stepR_cond he)⟩
    · refine (ih true _ _ r (cons_ok (child_ok 0 hsub rfl) hk') h).via fun w₀ G₀ G a w hr b cs _ _ _ => ?_
      have he : a.eval c = .bool true := ev_ok hr ht
      exact ⟨G, a, w, hr, .one (stepR_cond he)⟩
  · cases h
theorem run_region (ok : cx.Ok body) {labs : List (Lab R)} {n : Nat} (ih : IH cx hp₀ enc body labs n) {p : List Nat} {k' : List PIt} {id : Nat} {ops : Array Oper} {d : Bool} {r : R} (hk' : ∀ i ∈ k', i.Ok body) (h : runCode cx enc labs n p k' s (.region id ops d) = some r) : Goes cx hp₀ enc (.code (.region id ops d) :: items k') s r := by
  unfold runCode at h
  simp only at h
  cases d <;> simp only [cond_true, cond_false] at h
  · intro w₀ G₀ G a w hr b cs hb hkd hrd
    have hops := opsR_ok (P := cx.P) (ops := ops) ok.ents (N := fun a' w' => Arrives cx.P b.roundOf cx.f (lone (b.atR a' (items k')) cs w') cs fun v w' => ∃ G', Fin w₀ G₀ hp₀ G' (enc.res r).2 w' ∧ Rep (enc.res r).1 G' v)
      (fun s' h' G' a' w' hr' => ih true k' s'.bump r hk' h' w₀ G₀ G' a' w' hr'.bump b cs hb hkd hrd) ops.toList 0 s G a w (fun j hj => by simp) h hr
    have e : List.range' 0 ops.toList.length = List.range ops.size := by simp [List.range_eq_range']
    rw [e] at hops
    obtain ⟨a', w', h1, h2⟩ := dRegion (id := id) hops b (items k') cs hkd
    exact h1.head h2
  · intro w₀ G₀ G a w hr b cs hb hkd hrd
    obtain ⟨a', w', h1, h2⟩ := drawX_ok (P := cx.P) ok.ents ok.mixed h (N := fun a' w' => Arrives cx.P b.roundOf cx.f (lone (b.atR a' (items k')) cs w') cs fun v w' => ∃ G', Fin w₀ G₀ hp₀ G' (enc.res r).2 w' ∧ Rep (enc.res r).1 G' v)
      (fun s' h' G' a' w' hr' => ih true k' s'.bump r hk' h' w₀ G₀ G' a' w' hr'.bump b cs hb hkd hrd) hr id b (items k') cs hkd
    exact h1.head h2
theorem run_exit (ok : cx.Ok body) (hid : ∀ n bx, look hp₀ n = some bx → lookN cx.ids n = some n) {labs : List (Lab R)} {n : Nat} (ih : IH cx hp₀ enc body labs n) {k' : List PIt} {id : Nat} {r : R} (hk' : ∀ i ∈ k', i.Ok body)
    (h : (match exitP id k' with
      | some k'' => run cx enc labs n true k'' s
      | none => match cx.rd with
        | some _ => endq cx enc (some (.exit id)) s
        | none => none) = some r) : Goes cx hp₀ enc (.code (.exit id) :: items k') s r := by
  split at h
  · rename_i k'' hx
    obtain ⟨h1, h2⟩ := exitP_some hx
    exact (ih true k'' s r (fun i hi => hk' i (h2 i hi)) h).one fun a w b cs => stepR_exit h1
  · rename_i hx
    split at h
    · rename_i m hm
      exact endq_ok ok hid (j := some (.exit id)) ⟨by rw [hm]; simp, _, rfl, exitP_none hx hk'⟩ h
    · cases h
theorem run_range (ok : cx.Ok body) (hid : ∀ n bx, look hp₀ n = some bx → lookN cx.ids n = some n) {labs : List (Lab R)} {n : Nat} (ih : IH cx hp₀ enc body labs n) {p : List Nat} {k' : List PIt} {g : Operand} {ps : Array Tmp} {asn bo : Code} {r : R} (hsub : sub body p = .rangeFunc g ps asn bo) (hk' : ∀ i ∈ k', i.Ok body)
    (h : runCode cx enc labs n p k' s (.rangeFunc g ps asn bo) = some r) : Goes cx hp₀ enc (.code (.rangeFunc g ps asn bo) :: items k') s r := by
  unfold runCode at h
  simp only at h
  intro w₀ G₀ G a w hr b cs hb hkd hrd
  obtain ⟨j, s', G', a', w', h1, h2, h3⟩ := rfR_ok ok hr hsub h cs hb hkd hrd (items k')
  refine Arrives.head h3 ?_
  cases j with
  | none => exact ih true k' s' r hk' h1 w₀ G₀ G' a' w' h2 b cs hb hkd hrd
  | some j => cases j with
    | ret => exact endq_ok ok hid (j := some .ret) (k := .code .ret :: items k') ⟨_, rfl⟩ h1 w₀ G₀ G' a' w' h2 b cs hb hkd hrd
    | exit id => exact run_exit ok hid ih hk' h1 w₀ G₀ G' a' w' h2 b cs hb hkd hrd
theorem run_code (ok : cx.Ok body) (hid : ∀ n bx, look hp₀ n = some bx → lookN cx.ids n = some n) {labs : List (Lab R)} {n : Nat} (ih : IH cx hp₀ enc body labs n) {kd : Nat} {p : List Nat} {k' : List PIt} {c : Code} {r : R} (hi : (PIt.mk kd p (.code c)).Ok body) (hk' : ∀ i ∈ k', i.Ok body)
    (h : runCode cx enc labs n p k' s c = some r) : Goes cx hp₀ enc (.code c :: items k') s r := by
  have hsub := code_sub hi
  cases c with
  | skip => exact (ih true k' s r hk' h).one fun a w b cs => stepR_skip
  | label l => exact (ih true k' s r hk' h).one fun a w b cs => stepR_label
  | seq x y => exact (ih true _ s r (cons_ok (child_ok 0 hsub rfl) (cons_ok (child_ok 1 hsub rfl) hk')) h).one fun a w b cs => stepR_seq
  | cond c x y => exact run_cond ih hsub hk' h
  | block id x => exact (ih true _ s r (cons_ok (child_ok 0 hsub rfl) (cons_ok (block_ok hsub) hk')) h).one fun a w b cs => stepR_block
  | loop x => exact (ih true _ s r (cons_ok (child_ok 0 hsub rfl) (cons_ok (loop_item_ok hsub) hk')) h).one fun a w b cs => stepR_loop
  | scope x => exact (ih true _ s r (cons_ok (child_ok 0 hsub rfl) (cons_ok (scope_item_ok hsub) hk')) h).one fun a w b cs => stepR_scope
  | exit id => exact run_exit ok hid ih hk' h
  | region id ops d => exact run_region ok ih hk' h
  | ret => exact endq_ok ok hid (j := some .ret) ⟨_, rfl⟩ h
  | rangeFunc g ps asn bo => exact run_range ok hid ih hsub hk' h
  | _ => cases h
theorem run_begin {labs : List (Lab R)} {n : Nat} (ih : IH cx hp₀ enc body labs n) {k' : List PIt} {r : R} (hk' : ∀ i ∈ k', i.Ok body)
    (h : (match cx.rd with
      | some m => match look s.hp m with
        | some (.loop .ready pe f n' fr ps tag D) => run cx enc labs n true k' { s with hp := (m, .loop .busy pe f n' fr ps tag D) :: s.hp }
        | _ => none
      | none => none) = some r) : Goes cx hp₀ enc (.beginRound :: items k') s r := by
  split at h
  · rename_i m hm
    split at h
    · rename_i pe f n' fr ps tag D hl
      refine (ih true k' _ r hk' h).via fun w₀ G₀ G a w hr b cs _ _ hrd => ?_
      unfold RdOk at hrd
      rw [hm] at hrd
      simp only at hrd
      obtain ⟨B, bx0, e1, e2, e3⟩ := hrd
      obtain ⟨B', tmps, DB, i1, i2, ⟨asn, bo, i3, i4⟩, i5, i6, i7⟩ := hr.fin.mem.holds _ _ hl
      have := hr.fin.keep m bx0 B e2 e1
      rw [this] at i1; injection i1 with i1; subst i1
      have hbr := run_beginRound (P := cx.P) i4 rfl
      exact ⟨G, a, _, hr.setBox (bx' := .loop .busy pe f n' fr ps tag D) hl (show G.box m = some B from this)
        (fun c hc => by have hc : G.box m = some c := hc; rw [this] at hc; injection hc with hc; exact hc.symm)
        ⟨B, tmps, DB, this, i2, ⟨asn, bo, i3, by rw [World.putObj_heap_same (Array.getElem?_eq_some_iff.1 i4).1]⟩, i5, i6, i7⟩ i7, .one (stepR_beginRound e3 hbr)⟩
    · cases h
  · cases h
theorem run_ok (ok : cx.Ok body) (hid : ∀ n bx, look hp₀ n = some bx → lookN cx.ids n = some n) {labs : List (Lab R)} (hlab : ∀ l ∈ labs, LabOk cx hp₀ enc body l) :
    ∀ (n : Nat) (chk : Bool) (k : List PIt) (s : St) (r : R), (∀ i ∈ k, i.Ok body) → run cx enc labs n chk k s = some r → Goes cx hp₀ enc (items k) s r := by
  intro n
  induction n with
  | zero => intro chk k s r _ h; cases h
  | succ n ih =>
    intro chk k s r hk h
    unfold run at h
    cases hl : (bif chk then pickLab cx.ids s k labs else none) with
    | some lab =>
      rw [hl] at h
      have hl : pickLab cx.ids s k labs = some lab := by cases chk <;> simp only [cond_true, cond_false, reduceCtorEq] at hl; exact hl
      obtain ⟨hm, hkey⟩ := pickLab_mem hl
      simp only at h
      split at h
      · rename_i d hd
        have hg := hlab lab hm d r h
        rw [eqKey_items hkey hk] at hg
        refine hg.via fun w₀ G₀ G a w hr b cs _ _ _ => ?_
        obtain ⟨G1, hr1⟩ := hr.co lab.ls cx.ids
        obtain ⟨G2, hr2⟩ := hr1.fit hid hd
        exact ⟨G2, a, w, hr2, .refl _ _⟩
      · cases h
    | none =>
      rw [hl] at h
      simp only at h
      clear hl
      cases k with
      | nil => exact endq_ok ok hid (by rfl) h
      | cons i k' =>
        obtain ⟨kd, p, it⟩ := i
        obtain ⟨hi, hk'⟩ := ok_cons hk
        clear hk
        cases it with
        | code c => exact run_code ok hid ih hi hk' h
        | inBlock id => exact (ih true k' s r hk' h).one fun a w b cs => stepR_inBlock
        | inScope id => exact (ih true k' s r hk' h).one fun a w b cs => stepR_inScope
        | inLoop x =>
          have hsub : sub body p = .loop x := itemAt_loop hi
          exact (ih true _ s r (cons_ok (child_ok 0 hsub rfl) (cons_ok (loop_item_ok hsub) hk')) h).one fun a w b cs => stepR_inLoop
        | beginRound => exact run_begin ih hk' h
        | _ => cases h
end
end Go.Sym
/- Own slices in boxes under new names. -/
namespace Go.Sym
open Go.RowKit
variable [LC]

/-- the own slice in a cell of a box, under a new name -/
def St.reCell (s : St) (b off : Nat) : St :=
  match look s.hp b with
  | some (.cells cs T) => match cs[off]? with
    | some (.own k) => match look s.hp k with
      | some (.row τ l E) => bif noRange s.nx s.hp then { s with hp := (b, .cells (cs.set off (.own s.nx)) T) :: (s.nx, .row τ l E) :: (k, .dead) :: s.hp, nx := s.nx + 32 } else s
      | _ => s
    | _ => s
  | _ => s
def isOwnP : Pt → Bool
  | .own _ => true
  | _ => false
def reB1 (b : Nat) : List Pt → Nat → St → St
  | [], _, s => s
  | p :: ps, off, s => reB1 b ps (off + 1) (bif isOwnP p then s.reCell b off else s)
def reB : List (Nat × BPt) → St → St
  | [], s => s
  | (n, p) :: r, s => match p with
    | .cells ps _ => reB r (reB1 n ps 0 s)
    | _ => reB r s
/-- the own slice in a slot, under a new name -/
def St.reSlot (s : St) (i : Nat) : St :=
  match look s.fr i with
  | some (.own k) => match look s.hp k with
    | some (.row τ l E) => bif noRange s.nx s.hp && Nat.blt i s.n then { s with fr := (i, .own s.nx) :: s.fr, hp := (s.nx, .row τ l E) :: (k, .dead) :: s.hp, nx := s.nx + 32 } else s
    | _ => s
  | _ => s
def reA : List Pt → Nat → St → St
  | [], _, s => s
  | p :: ps, i, s => reA ps (i + 1) (bif isOwnP p then s.reSlot i else s)
section
variable {w₀ : World} {G₀ : Gh} {hp₀ : List (Nat × Box)} {G : Gh} {s : St} {a : Act} {w : World}
theorem Fin.rename {hp : List (Nat × Box)} (hf : Fin w₀ G₀ hp₀ G hp w) {k k' : Nat} {τ : Ty} {l : List τ.den} {E : TypeId} {v : Option Addr × Nat × Nat} (hk : look hp k = some (.row τ l E)) (hk' : look hp k' = none) (hfr : G.own k' = none) (ho : G.own k = some v) :
    Fin w₀ G₀ hp₀ (G.addOwn k' v) ((k', .row τ l E) :: (k, .dead) :: hp) w := by
  have hle : G.le (G.addOwn k' v) := Gh.addOwn_le hfr
  have hlk : ∀ m b, look ((k', Box.row τ l E) :: (k, .dead) :: hp) m = some b → (m = k' ∧ b = .row τ l E) ∨ b = .dead ∨ (m ≠ k ∧ look hp m = some b) := fun m b h => by
    simp only [look] at h
    cases hb : Nat.beq k' m
    · rw [hb] at h
      cases hb2 : Nat.beq k m
      · rw [hb2] at h; exact .inr (.inr ⟨fun e => by subst e; simp at hb2, h⟩)
      · rw [hb2] at h; simp only [cond_true, cond_false, Option.some.injEq] at h; exact .inr (.inl h.symm)
    · rw [hb] at h; simp only [cond_true, Option.some.injEq] at h; exact .inl ⟨(Nat.eq_of_beq_eq_true hb).symm, h.symm⟩
  have hat : (G.addOwn k' v).at k' (.row τ l E) = G.at k (.row τ l E) := by simp only [Gh.at, Gh.addOwn_self, ho]
  refine ⟨⟨hf.mem.agree, hf.mem.one, ?_, ?_, hf.mem.tab⟩, hf.bel, hf.imm_le, hf.imm_new, ?_, fun n bx B h1 h2 => hle.box _ _ (hf.keep n bx B h1 h2), fun n bx B h1 h2 => hle.own _ _ (hf.keepOwn n bx B h1 h2)⟩
  · intro m b h
    rcases hlk m b h with ⟨rfl, rfl⟩ | rfl | ⟨_, h⟩
    · obtain ⟨ad, c, i1, i2⟩ := hf.mem.holds k _ hk
      rw [ho] at i1; injection i1 with i1; subst i1
      exact ⟨ad, c, Gh.addOwn_self, i2⟩
    · trivial
    · exact (hf.mem.holds m b h).mono hle (fun _ _ => rfl) (fun _ _ _ h => .inl h)
  · intro m m' b b' c h1 h2 h3 h4
    rcases hlk m b h1 with ⟨rfl, rfl⟩ | rfl | ⟨n1, g1⟩ <;> rcases hlk m' b' h2 with ⟨e2, rfl⟩ | rfl | ⟨n2, g2⟩
    · exact e2.symm
    · cases h4
    · rw [hat] at h3
      rw [(hf.mem.holds m' b' g2).at_le hle] at h4
      exact absurd (hf.mem.apart m' k b' _ c g2 hk h4 h3) n2
    · cases h3
    · cases h3
    · cases h3
    · subst e2
      rw [hat] at h4
      rw [(hf.mem.holds m b g1).at_le hle] at h3
      exact absurd (hf.mem.apart m k b _ c g1 hk h3 h4) n1
    · cases h4
    · rw [(hf.mem.holds m b g1).at_le hle] at h3
      rw [(hf.mem.holds m' b' g2).at_le hle] at h4
      exact hf.mem.apart m m' b b' c g1 g2 h3 h4
  · intro m b c h1 h2
    rcases hlk m b h1 with ⟨rfl, rfl⟩ | rfl | ⟨n1, h1⟩
    · rw [hat] at h2; exact hf.base k _ c hk h2
    · cases h2
    · rw [(hf.mem.holds m b h1).at_le hle] at h2
      exact hf.base m b c h1 h2
theorem Rel.reCell (hr : Rel w₀ G₀ hp₀ G s a w) (b off : Nat) : ∃ G', Rel w₀ G₀ hp₀ G' (s.reCell b off) a w := by
  unfold St.reCell
  split
  · rename_i cs T hb0
    split
    · rename_i k hx0
      split
      · rename_i τ l E hk0
        cases hn : noRange s.nx s.hp
        · exact ⟨G, hr⟩
        · simp only [cond_true]
          have hk := noRange_look hn s.nx (Nat.le_refl _) (by omega)
          obtain ⟨ad, c, i1, _⟩ := hr.fin.mem.holds k _ hk0
          have hfresh := hr.fresh s.nx (Nat.le_refl _) hk
          have hle : G.le (G.addOwn s.nx (ad, l.length, c)) := Gh.addOwn_le hfresh.2
          have hf := hr.fin.rename hk0 hk hfresh.2 i1
          have hne : s.nx ≠ b := fun e => by rw [e, hb0] at hk; cases hk
          have hne2 : k ≠ b := fun e => by rw [e, hb0] at hk0; cases hk0
          have hb1 : look ((s.nx, Box.row τ l E) :: (k, .dead) :: s.hp) b = some (.cells cs T) := by
            simp only [look]
            cases hq : Nat.beq s.nx b
            · cases hq2 : Nat.beq k b
              · exact hb0
              · exact absurd (Nat.eq_of_beq_eq_true hq2) hne2
            · exact absurd (Nat.eq_of_beq_eq_true hq) hne
          obtain ⟨B, vs, k1, k2, k3, k4, k5⟩ := hf.mem.holds _ _ hb1
          have hv : vs.toList[off]? = some (.slice ad l.length c) := by
            obtain ⟨v, h1, h2⟩ := reps_get k3 hx0
            obtain ⟨a', n', c', q1, q2⟩ := h2
            rw [hle.own _ _ i1] at q1
            simp only [Option.some.injEq, Prod.mk.injEq] at q1
            obtain ⟨rfl, rfl, rfl⟩ := q1
            subst q2; exact h1
          have hset : vs.toList.set off (.slice ad l.length c) = vs.toList := by
            obtain ⟨hlt, he⟩ := List.getElem?_eq_some_iff.1 hv
            rw [← he, List.set_getElem_self]
          refine ⟨G.addOwn s.nx (ad, l.length, c), ⟨by obtain ⟨bs, q1, q2⟩ := hr.defers; exact ⟨bs, q1, defers_le hle.box q2⟩, hr.size, fun j x hx => by obtain ⟨v, h1, h2⟩ := hr.frame j x hx; exact ⟨v, h1, h2.le hle⟩, fun m hm hl => ?_, ?_⟩⟩
          · simp only at hm
            have hmn : s.nx ≠ m := by omega
            simp only [look] at hl
            cases hq : Nat.beq b m <;> rw [hq] at hl <;> simp only [cond_true, cond_false, reduceCtorEq] at hl
            cases hq1 : Nat.beq s.nx m <;> rw [hq1] at hl <;> simp only [cond_true, cond_false, reduceCtorEq] at hl
            cases hq2 : Nat.beq k m <;> rw [hq2] at hl <;> simp only [cond_true, cond_false, reduceCtorEq] at hl
            obtain ⟨h1, h2⟩ := hr.fresh m (by omega) hl
            refine ⟨h1, ?_⟩
            show (bif Nat.beq m s.nx then some _ else G.own m) = none
            cases hbm : Nat.beq m s.nx
            · exact h2
            · exact absurd (Nat.eq_of_beq_eq_true hbm).symm hmn
          · refine hf.update (bx := .cells cs T) (bx' := .cells (cs.set off (.own s.nx)) T) hb1 (B := B) k1 k1 ⟨rfl, rfl, rfl, Nat.le_refl _, fun _ _ _ => rfl⟩ ⟨B, vs, k1, k2, ?_, k4, k5⟩ k5
            have := reps_set off k3 (x := .own s.nx) (v := .slice ad l.length c) ⟨ad, l.length, c, Gh.addOwn_self, rfl⟩
            rwa [hset] at this
      · exact ⟨G, hr⟩
    · exact ⟨G, hr⟩
  · exact ⟨G, hr⟩
theorem Rel.reSlot (hr : Rel w₀ G₀ hp₀ G s a w) (i : Nat) : ∃ G', Rel w₀ G₀ hp₀ G' (s.reSlot i) a w := by
  unfold St.reSlot
  split
  · rename_i k hx0
    split
    · rename_i τ l E hk0
      cases hn : noRange s.nx s.hp && Nat.blt i s.n
      · exact ⟨G, hr⟩
      · simp only [cond_true]
        simp only [Bool.and_eq_true] at hn
        have hk := noRange_look hn.1 s.nx (Nat.le_refl _) (by omega)
        obtain ⟨ad, c, i1, _⟩ := hr.fin.mem.holds k _ hk0
        have hfresh := hr.fresh s.nx (Nat.le_refl _) hk
        have hle : G.le (G.addOwn s.nx (ad, l.length, c)) := Gh.addOwn_le hfresh.2
        refine ⟨G.addOwn s.nx (ad, l.length, c), ⟨by obtain ⟨bs, q1, q2⟩ := hr.defers; exact ⟨bs, q1, defers_le hle.box q2⟩, hr.size, fun j x hx => ?_, fun m hm hl => ?_, hr.fin.rename hk0 hk hfresh.2 i1⟩⟩
        · simp only [look] at hx
          cases hq : Nat.beq i j
          · rw [hq] at hx
            obtain ⟨v, h1, h2⟩ := hr.frame j x hx
            exact ⟨v, h1, h2.le hle⟩
          · rw [hq] at hx; simp only [cond_true, Option.some.injEq] at hx; subst hx
            have := Nat.eq_of_beq_eq_true hq; subst this
            obtain ⟨v, h1, a', n', c', q1, q2⟩ := hr.frame i _ hx0
            rw [i1] at q1
            simp only [Option.some.injEq, Prod.mk.injEq] at q1
            obtain ⟨rfl, rfl, rfl⟩ := q1
            exact ⟨v, h1, ad, l.length, c, Gh.addOwn_self, q2⟩
        · simp only at hm
          have hmn : s.nx ≠ m := by omega
          simp only [look] at hl
          cases hq1 : Nat.beq s.nx m <;> rw [hq1] at hl <;> simp only [cond_true, cond_false, reduceCtorEq] at hl
          cases hq2 : Nat.beq k m <;> rw [hq2] at hl <;> simp only [cond_true, cond_false, reduceCtorEq] at hl
          obtain ⟨h1, h2⟩ := hr.fresh m (by omega) hl
          refine ⟨h1, ?_⟩
          show (bif Nat.beq m s.nx then some _ else G.own m) = none
          cases hbm : Nat.beq m s.nx
          · exact h2
          · exact absurd (Nat.eq_of_beq_eq_true hbm).symm hmn
    · exact ⟨G, hr⟩
  · exact ⟨G, hr⟩
theorem Rel.reA : ∀ {ps : List Pt} {i : Nat} {s : St} {G : Gh}, Rel w₀ G₀ hp₀ G s a w → ∃ G', Rel w₀ G₀ hp₀ G' (reA ps i s) a w
  | [], _, s, G, hr => ⟨G, hr⟩
  | p :: ps, i, s, G, hr => by
    unfold Sym.reA
    cases isOwnP p
    · exact Rel.reA hr
    · obtain ⟨G', hr'⟩ := hr.reSlot i
      exact Rel.reA hr'
theorem Rel.reB1 {b : Nat} : ∀ {ps : List Pt} {off : Nat} {s : St} {G : Gh}, Rel w₀ G₀ hp₀ G s a w → ∃ G', Rel w₀ G₀ hp₀ G' (reB1 b ps off s) a w
  | [], _, s, G, hr => ⟨G, hr⟩
  | p :: ps, off, s, G, hr => by
    unfold Sym.reB1
    cases isOwnP p
    · exact Rel.reB1 hr
    · obtain ⟨G', hr'⟩ := hr.reCell b off
      exact Rel.reB1 hr'
theorem Rel.reB : ∀ {l : List (Nat × BPt)} {s : St} {G : Gh}, Rel w₀ G₀ hp₀ G s a w → ∃ G', Rel w₀ G₀ hp₀ G' (reB l s) a w
  | [], s, G, hr => ⟨G, hr⟩
  | (n, p) :: r, s, G, hr => by
    unfold Sym.reB
    split
    · obtain ⟨G', hr'⟩ := hr.reB1
      exact Rel.reB hr'
    · exact Rel.reB hr
end
end Go.Sym
/- Entries out of bodies. -/
namespace Go.Sym
open Go.RowKit
variable [LC]

def idsB : List (Nat × BPt) → NM
  | [] => []
  | (n, _) :: r => (n, n) :: idsB r
def inN (N : NM) (n : Nat) : Bool := match rho N n with
  | some m => Nat.beq m n
  | none => false
omit [LC] in
theorem inN_eq {N : NM} {n : Nat} (h : inN N n = true) : rho N n = some n := by
  unfold inN at h
  split at h
  · rename_i m hm
    have := Nat.eq_of_beq_eq_true h; subst this; exact hm
  · cases h
mutual
def ptIn (N : NM) : Pt → Bool
  | .agg ps => ptsIn N ps
  | .tup ps => ptsIn N ps
  | .ptr b _ => inN N b
  | .own k => inN N k
  | .el k _ => inN N k
  | .iel _ k _ => inN N k
  | .yld k => inN N k
  | .pn k => inN N k
  | .fn _ ps => ptsIn N ps
  | _ => true
def ptsIn (N : NM) : List Pt → Bool
  | [] => true
  | p :: ps => ptIn N p && ptsIn N ps
end
omit [LC] in
theorem av_ren {ρ : Nat → Option Nat} : ∀ {τ : Ty} {d : τ.den}, (τ.av d).ren ρ = τ.av d
  | .int _, _ => rfl
  | .byte, _ => rfl
  | .bool, _ => rfl
  | .str, _ => rfl
  | .unit, _ => rfl
  | .list _, _ => rfl
  | .prod a b, d => by show AV.agg (AV.rens ρ ((Ty.prod a b).enc d)) = _; rw [Ty.enc_ren]; rfl
  | .tree a, d => by show AV.agg (AV.rens ρ ((Ty.tree a).enc d)) = _; rw [Ty.enc_ren]; rfl
omit [LC] in
mutual
theorem put_ren {N : NM} : ∀ {p : Pt} {d : p.den}, ptIn N p = true → (p.put d).ren (rho N) = p.put d
  | .h τ, d, _ => av_ren
  | .c _, _, _ => rfl
  | .agg ps, d, h => congrArg AV.agg (puts_ren (ps := ps) (d := d) h)
  | .tup ps, d, h => congrArg AV.tup (puts_ren (ps := ps) (d := d) h)
  | .ptr b off, _, h => by show AV.ren (rho N) (.ptr b off) = _; simp only [AV.ren, inN_eq (show inN N b = true from h)]; rfl
  | .own k, _, h => by show AV.ren (rho N) (.own k) = _; simp only [AV.ren, inN_eq (show inN N k = true from h)]; rfl
  | .arr _, _, _ => rfl
  | .el k sz, _, h => by show AV.ren (rho N) (.oel k sz 0 0) = _; simp only [AV.ren, inN_eq (show inN N k = true from h)]; rfl
  | .iel t k sz, _, h => by show AV.ren (rho N) (.iface t (.oel k sz 0 0)) = _; simp only [AV.ren, inN_eq (show inN N k = true from h)]; rfl
  | .yld k, _, h => by show AV.ren (rho N) (.yld k) = _; simp only [AV.ren, inN_eq (show inN N k = true from h)]; rfl
  | .pn k, _, h => by show AV.ren (rho N) (.pn k) = _; simp only [AV.ren, inN_eq (show inN N k = true from h)]; rfl
  | .fn f ps, d, h => congrArg (AV.fn (.func f) []) (puts_ren (ps := ps) (d := d) h)
  | .u, _, _ => rfl
theorem puts_ren {N : NM} : ∀ {ps : List Pt} {d : Pts.den ps}, ptsIn N ps = true → AV.rens (rho N) (Pts.put ps d) = Pts.put ps d
  | [], _, _ => rfl
  | p :: ps, d, h => by
    simp only [ptsIn, Bool.and_eq_true] at h
    have h1 := put_ren (p := p) (d := d.1) h.1
    have h2 := puts_ren (ps := ps) (d := d.2) h.2
    show AV.ren (rho N) (p.put d.1) :: AV.rens (rho N) (Pts.put ps d.2) = p.put d.1 :: Pts.put ps d.2
    rw [h1, h2]
end
def fIn (N : NM) : List (Nat × Pt) → Bool
  | [] => true
  | (_, p) :: r => ptIn N p && fIn N r
omit [LC] in
theorem fput_ren {N : NM} : ∀ {l : List (Nat × Pt)} {d : fden l}, fIn N l = true → renFr (rho N) (fput l d) = fput l d
  | [], _, _ => rfl
  | (i, p) :: r, d, h => by
    simp only [fIn, Bool.and_eq_true] at h
    have h1 := put_ren (p := p) (d := d.1) h.1
    have h2 := fput_ren (l := r) (d := d.2) h.2
    show (i, AV.ren (rho N) (p.put d.1)) :: renFr (rho N) (fput r d.2) = (i, p.put d.1) :: fput r d.2
    rw [h1, h2]
def bptIn (N : NM) : BPt → Bool
  | .cells ps _ => ptsIn N ps
  | .loop _ _ _ _ fr _ _ D => inN N D && fIn N fr
  | _ => true
def bIn (N : NM) : List (Nat × BPt) → Bool
  | [] => true
  | (n, p) :: r => inN N n && bptIn N p && bIn N r
omit [LC] in
theorem bptIn_ren {N : NM} : ∀ {p : BPt} {d : p.den}, bptIn N p = true → renB (rho N) (p.put d) = p.put d
  | .cells ps T, d, h => congrArg (fun l => Box.cells l T) (puts_ren (ps := ps) (d := d) h)
  | .row _ _, _, _ => rfl
  | .loop st pe f n fr ps tag D, d, h => by
    simp only [bptIn, Bool.and_eq_true] at h
    have h2 := fput_ren (l := fr) (d := d) h.2
    have h3 : renB (rho N) (.loop st pe f n (fput fr d) ps tag D) = .loop st pe f n (renFr (rho N) (fput fr d)) ps tag D := by simp only [renB, inN_eq h.1]
    exact h3.trans (congrArg (fun l => Box.loop st pe f n l ps tag D) h2)
  | .dfr, _, _ => rfl
  | .it, _, _ => rfl
  | .dead, _, _ => rfl
  | .dat τ T, d, _ => congrArg (fun l => Box.cells l T) (Ty.enc_ren (rho N) τ d)
omit [LC] in
theorem bIn_look {N : NM} : ∀ {l : List (Nat × BPt)} {d : bden l}, bIn N l = true → ∀ n b, look (bput l d) n = some b → rho N n = some n ∧ renB (rho N) b = b
  | [], _, _, _, _, h => by cases h
  | (m, p) :: r, d, h, n, b, hl => by
    simp only [bIn, Bool.and_eq_true] at h
    have hl : (bif Nat.beq m n then some (p.put d.1) else look (bput r d.2) n) = some b := hl
    cases hb : Nat.beq m n
    · rw [hb] at hl; exact bIn_look (d := d.2) h.2 n b hl
    · rw [hb] at hl; have := Nat.eq_of_beq_eq_true hb; subst this
      simp only [cond_true, Option.some.injEq] at hl; subst hl
      exact ⟨inN_eq h.1.1, bptIn_ren h.1.2⟩
/-- only the names of the memory handed in -/
theorem Mem.only {G : Gh} {hp : List (Nat × Box)} {w : World} {N : NM} (hm : Mem G hp w) (h : ∀ n b, look hp n = some b → rho N n = some n ∧ renB (rho N) b = b) : Mem (G.view N) hp w := by
  have hb : ∀ n b, look hp n = some b → (G.view N).box n = G.box n ∧ (G.view N).own n = G.own n := fun n b hl => by
    have := rho_spec (h n b hl).1
    exact ⟨by simp [Gh.view, this], by simp [Gh.view, this]⟩
  have hat : ∀ n b c, look hp n = some b → (G.view N).at n b = some c → G.at n b = some c := fun n b c hl hc => by
    have := (h n b hl).2
    exact at_ren (G := G) (G' := G.view N) (ρ := rho N) (hb n b hl).1 (hb n b hl).2 (by rw [this]; exact hc)
  refine ⟨hm.agree, hm.one, fun n b hl => ?_, fun n m b b' c h1 h2 h3 h4 => hm.apart n m b b' c h1 h2 (hat _ _ _ h1 h3) (hat _ _ _ h2 h4), hm.tab⟩
  have := BoxOk.ren (G := G) (G' := G.view N) (ρ := rho N) (n := n) (m := n) (fun _ _ _ h => h) (fun _ _ _ h => h) (view_box N) (view_own N) (fun B hB => by rw [(hb n b hl).1]; exact hB) (fun B hB => by rw [(hb n b hl).2]; exact hB) (hm.holds n b hl)
  rw [(h n b hl).2] at this
  exact this
theorem Fin.only {G G' : Gh} {hp hp' : List (Nat × Box)} {w w' : World} {N : NM} (h : ∀ n b, look hp n = some b → rho N n = some n ∧ renB (rho N) b = b) (hf : Fin w (G.view N) hp G' hp' w') : Fin w G hp G' hp' w' := by
  have hb : ∀ n b, look hp n = some b → (G.view N).box n = G.box n ∧ (G.view N).own n = G.own n := fun n b hl => by
    have := rho_spec (h n b hl).1
    exact ⟨by simp [Gh.view, this], by simp [Gh.view, this]⟩
  have hblk : ∀ c, blocks (G.view N) hp c → blocks G hp c := fun c ⟨n, b, h1, h2⟩ => ⟨n, b, h1, at_ren (G := G) (G' := G.view N) (ρ := rho N) (hb n b h1).1 (hb n b h1).2 (by rw [(h n b h1).2]; exact h2)⟩
  refine ⟨hf.mem, ⟨hf.bel.os, hf.bel.tape, hf.bel.output, hf.bel.size, fun k hk hS => hf.bel.block k hk fun hx => hS (hblk k hx)⟩, hf.imm_le, fun b o v hv => ?_, fun n b c h1 h2 => ?_, fun n b B h1 h2 => hf.keep n b B h1 (by rw [(hb n b h1).1]; exact h2), fun n b B h1 h2 => hf.keepOwn n b B h1 (by rw [(hb n b h1).2]; exact h2)⟩
  · rcases hf.imm_new b o v hv with h | h | h
    · exact .inl h
    · exact .inr (.inl h)
    · exact .inr (.inr (hblk _ h))
  · rcases hf.base n b c h1 h2 with h | h
    · exact .inl h
    · exact .inr (hblk _ h)

def initFr : List AV → Nat → List (Nat × AV)
  | [], _ => []
  | x :: xs, i => (i, x) :: initFr xs (i + 1)
omit [LC] in
theorem initFr_look : ∀ {xs : List AV} {G : Gh} {vs : List Value} (i : Nat), Reps xs G vs → ∀ j x, look (initFr xs i) j = some x → i ≤ j ∧ ∃ v, vs[j - i]? = some v ∧ Rep x G v
  | [], _, [], _, _, j, x, h => by cases h
  | x :: xs, G, v :: vs, i, hr, j, y, h => by
    simp only [initFr, look] at h
    cases hb : Nat.beq i j
    · rw [hb] at h
      obtain ⟨h1, u, h2, h3⟩ := initFr_look (i + 1) hr.2 j y h
      refine ⟨by omega, u, ?_, h3⟩
      rw [show j - i = (j - (i + 1)) + 1 by omega]; simpa using h2
    · rw [hb] at h; have := Nat.eq_of_beq_eq_true hb; subst this
      simp only [cond_true, Option.some.injEq] at h; subst h
      exact ⟨Nat.le_refl _, v, by simp, hr.1⟩
  | [], _, _ :: _, _, h, _, _, _ => h.elim
  | _ :: _, _, [], _, h, _, _, _ => h.elim
theorem blocks_self {G : Gh} {w : World} {hp : List (Nat × Box)} (hm : Mem G hp w) : Fin w G hp G hp w :=
  ⟨hm, ⟨rfl, rfl, rfl, Nat.le_refl _, fun _ _ _ => rfl⟩, fun _ _ _ h => h, fun _ _ _ h => .inl h, fun n bx _b h1 h2 => .inr ⟨n, bx, h1, h2⟩, fun _ _ _ _ h => h, fun _ _ _ _ h => h⟩
/-- where names of new memory begin -/
def NX : Nat := 64
/-- a function's body at these arguments -/
def runFn (cx : Cx) (body : Code) {R : Type} (enc : RS R) (labs : List (Lab R)) (asn : List Pt) (pts : List (Nat × BPt)) (xs : List AV) (hp : List (Nat × Box)) : Option R :=
  run cx enc labs 1000000 true [⟨0, [], .code body⟩] (reB pts (reA (bif cx.tb.sub then asn else []) 0 { n := cx.fn.ntmps, fr := initFr xs 0, hp := hp, nx := NX, df := [] }))
/-- the checks that are the same for all arguments -/
def fnFine (cx : Cx) (args : List Pt) (hp : List (Nat × BPt)) : Bool := ptsIn (idsB hp) args && bIn (idsB hp) hp && Nat.ble args.length cx.fn.ntmps
omit [LC] in
theorem idsB_look : ∀ {l : List (Nat × BPt)} {d : bden l} {n : Nat} {b : Box}, look (bput l d) n = some b → lookN (idsB l) n = some n
  | [], _, _, _, h => by cases h
  | (m, p) :: r, d, n, b, h => by
    have h : (bif Nat.beq m n then some (p.put d.1) else look (bput r d.2) n) = some b := h
    simp only [idsB, lookN]
    cases hb : Nat.beq m n
    · rw [hb] at h; exact idsB_look (d := d.2) h
    · have := Nat.eq_of_beq_eq_true hb; subst this; rfl
omit [LC] in
theorem noName {m : Nat} : ∀ {l : List (Nat × BPt)} {d : bden l}, look (bput l d) m = none → lookN (idsB l) m = none
  | [], _, _ => rfl
  | (n, p) :: r, d, h => by
    have h : (bif Nat.beq n m then some (p.put d.1) else look (bput r d.2) m) = none := h
    simp only [idsB, lookN]
    cases hb : Nat.beq n m
    · rw [hb] at h; exact noName (d := d.2) h
    · rw [hb] at h; cases h
omit [LC] in
theorem puts_length : ∀ {ps : List Pt} {d : Pts.den ps}, (Pts.put ps d).length = ps.length
  | [], _ => rfl
  | p :: ps, d => by show (p.put d.1 :: Pts.put ps d.2).length = _; simp [puts_length]
theorem Ent.sound_fn {e : Ent} {cx : Cx} {body : Code} {labs : List (Lab e.R)} (ok : cx.Ok body) (hkey : e.key = .fn cx.f) (hbody : cx.fn.body = some body) (hrd : cx.rd = none) (hids : cx.ids = idsB e.hp) (hpl : Plain cx.P cx.f)
    (hfine : fnFine cx e.args e.hp = true) (hlab : ∀ d', ∀ l ∈ labs, LabOk cx (bput e.hp d') e.out body l) (hF : ∀ d d', runFn cx body e.out labs e.args e.hp (Pts.put e.args d) (bput e.hp d') = e.F d d') : e.Sound cx.P := by
  intro d d' r hr
  rw [hkey]
  refine ⟨hpl, fun w G vs hm hreps => ?_⟩
  simp only [fnFine, Bool.and_eq_true] at hfine
  obtain ⟨⟨f1, f2⟩, f3⟩ := hfine
  have f3 := Nat.le_of_ble_eq_true f3
  have hin := bIn_look (d := d') f2
  have hm' := hm.only hin
  have hreps' : Reps (Pts.put e.args d) (G.view (idsB e.hp)) vs := by
    have := Reps.ren (ρ := rho (idsB e.hp)) (G := G) (G' := G.view (idsB e.hp)) (fun _ _ _ h => h) (view_box _) (view_own _) hreps
    rwa [puts_ren f1] at this
  have hlv := hreps.length
  rw [puts_length] at hlv
  have hrun := hF d d'
  rw [hr] at hrun
  have hg := run_ok (enc := e.out) ok (hp₀ := bput e.hp d') (fun n bx h => by rw [hids]; exact idsB_look h) (hlab d') _ _ _ _ _ (fun i hi => by
    rcases List.mem_cons.1 hi with rfl | hi
    · rfl
    · cases hi) hrun
  have hr0 : Rel w (G.view (idsB e.hp)) (bput e.hp d') (G.view (idsB e.hp)) { n := cx.fn.ntmps, fr := initFr (Pts.put e.args d) 0, hp := bput e.hp d', nx := NX, df := [] } { tmps := vs.toArray ++ Array.replicate (cx.fn.ntmps - vs.toArray.size) undef, defers := [] } w := by
    refine ⟨⟨[], rfl, rfl⟩, by simp; omega, fun i x hx => ?_, fun m _ hl => ?_, blocks_self hm'⟩
    · obtain ⟨_, v, h2, h3⟩ := initFr_look 0 hreps' i x hx
      refine ⟨v, ?_, h3⟩
      have hlt : i < vs.length := by have := (List.getElem?_eq_some_iff.1 h2).1; simpa using this
      rw [Array.getElem?_append_left (by simpa using hlt)]
      simpa using h2
    · have : lookN (idsB e.hp) m = none := noName hl
      simp [Gh.view, this]
  obtain ⟨G0, hr0'⟩ := hr0.reA (ps := bif cx.tb.sub then e.args else []) (i := 0)
  obtain ⟨G1, hr1⟩ := hr0'.reB (l := e.hp)
  intro cs
  let b : Frame := { (default : Frame) with fn := cx.f, kind := .normal }
  have henter : Frame.enter cx.P cx.f vs.toArray .normal = b.atR { tmps := vs.toArray ++ Array.replicate (cx.fn.ntmps - vs.toArray.size) undef, defers := [] } [.code body] := by
    simp [Frame.enter, Frame.atR, ok.func, hbody, b]
    rfl
  have := hg w _ _ _ w hr1 b cs rfl rfl (by unfold RdOk; rw [hrd]; rfl)
  obtain ⟨v, w', fr, ⟨G', h1, h2⟩, h3, h4, h5⟩ := this
  exact ⟨.returned v, w', fr, ⟨v, G', rfl, h1.only hin, h2⟩, by rw [henter]; exact h3, h4, h5⟩
omit [LC] in
/-- yield's arguments in the round's frame -/
def rdFr : List Tmp → List AV → List (Nat × AV) → List (Nat × AV)
  | p :: ps, x :: xs, fr => rdFr ps xs ((p, x) :: fr)
  | _, _, fr => fr
def allLt (n : Nat) : List Nat → Bool
  | [] => true
  | p :: ps => Nat.blt p n && allLt n ps
omit [LC] in
theorem rdFr_ok {G : Gh} {n : Nat} : ∀ {ps : List Tmp} {xs : List AV} {vs : List Value} {fr : List (Nat × AV)} {tmps : Array Value}, allLt n ps = true → tmps.size = n → ps.length = xs.length → Reps xs G vs → (∀ i x, look fr i = some x → ∃ v, tmps[i]? = some v ∧ Rep x G v) →
    ((ps.zip vs).foldl (fun (tmps : Array Value) (q : Tmp × Value) => tmps.setIfInBounds q.1 q.2) tmps).size = n ∧ ∀ i x, look (rdFr ps xs fr) i = some x → ∃ v, ((ps.zip vs).foldl (fun (tmps : Array Value) (q : Tmp × Value) => tmps.setIfInBounds q.1 q.2) tmps)[i]? = some v ∧ Rep x G v
  | [], [], [], fr, tmps, _, hn, _, _, hfr => ⟨hn, hfr⟩
  | p :: ps, x :: xs, v :: vs, fr, tmps, hlt, hn, hl, hr, hfr => by
    simp only [allLt, Bool.and_eq_true] at hlt
    have hp : p < n := by have := hlt.1; simpa using this
    simp only [List.zip_cons_cons, List.foldl_cons, rdFr]
    refine rdFr_ok hlt.2 (by simp [hn]) (by simpa using hl) hr.2 (fun i y hy => ?_)
    simp only [look] at hy
    cases he : Nat.beq p i
    · rw [he] at hy; simp only [cond_false] at hy
      have hne : p ≠ i := fun e => by subst e; simp at he
      obtain ⟨u, h1, h2⟩ := hfr i y hy
      exact ⟨u, by simp [hne, h1], h2⟩
    · rw [he] at hy; simp only [cond_true, Option.some.injEq] at hy; subst hy
      have := Nat.eq_of_beq_eq_true he; subst this
      exact ⟨v, by simp [hn, hp], hr.1⟩
  | [], _ :: _, _, _, _, _, _, h, _, _ => by simp at h
  | _ :: _, [], _, _, _, _, _, h, _, _ => by simp at h
  | [], [], _ :: _, _, _, _, _, _, h, _ => h.elim
  | _ :: _, _ :: _, [], _, _, _, _, _, h, _ => h.elim
/-- a round of the loop m, whose statement lies at p -/
def runRd (cx : Cx) (body : Code) (p : List Nat) (m : Nat) {R : Type} (enc : RS R) (labs : List (Lab R)) (pts : List (Nat × BPt)) (xs : List AV) (hp : List (Nat × Box)) : Option R :=
  match look hp m with
  | some (.loop .ready none f n fr ps tag _) => bif Nat.beq f cx.f && allLt n ps && eqLen ps xs && tagIs tag p cx.tags then
      run cx enc labs 1000000 true (itemsAt body [(0, 0 :: p), (4, []), (0, 1 :: p)]) (reB pts { n := n, fr := rdFr ps xs fr, hp := hp, nx := NX, df := [] })
    else none
  | _ => none
where
  eqLen : List Tmp → List AV → Bool
    | [], [] => true
    | _ :: ps, _ :: xs => eqLen ps xs
    | _, _ => false
  tagIs (tag : Nat) (p : List Nat) (tags : List (List Nat × Nat)) : Bool := match lookT p tags with
    | some t => Nat.beq t tag
    | none => false
omit [LC] in
theorem eqLen_eq : ∀ {ps : List Tmp} {xs : List AV}, runRd.eqLen ps xs = true → ps.length = xs.length
  | [], [], _ => rfl
  | _ :: ps, _ :: xs, h => by simp [eqLen_eq (ps := ps) (xs := xs) h]
  | [], _ :: _, h => by cases h
  | _ :: _, [], h => by cases h
def isRF : Code → Bool
  | .rangeFunc _ _ _ _ => true
  | _ => false
theorem Ent.sound_yld {e : Ent} {cx : Cx} {body : Code} {p : List Nat} {m : Nat} {labs : List (Lab e.R)} (ok : cx.Ok body) (hkey : e.key = .yld m) (hrd : cx.rd = some m) (hids : cx.ids = idsB e.hp) (hrf : isRF (sub body p) = true)
    (hfine : (ptsIn (idsB e.hp) e.args && bIn (idsB e.hp) e.hp) = true) (hlab : ∀ d', ∀ l ∈ labs, LabOk cx (bput e.hp d') e.out body l) (hF : ∀ d d', runRd cx body p m e.out labs e.hp (Pts.put e.args d) (bput e.hp d') = e.F d d') : e.Sound cx.P := by
  intro d d' r hr
  rw [hkey]
  intro w G vs B hm hreps hB
  simp only [Bool.and_eq_true] at hfine
  obtain ⟨f1, f2⟩ := hfine
  have hin := bIn_look (d := d') f2
  have hm' := hm.only hin
  have hreps' : Reps (Pts.put e.args d) (G.view (idsB e.hp)) vs := by
    have := Reps.ren (ρ := rho (idsB e.hp)) (G := G) (G' := G.view (idsB e.hp)) (fun _ _ _ h => h) (view_box _) (view_own _) hreps
    rwa [puts_ren f1] at this
  have hrun := hF d d'
  rw [hr] at hrun
  unfold runRd at hrun
  split at hrun
  · rename_i f n fr ps tag D hl
    cases hb : Nat.beq f cx.f && allLt n ps && runRd.eqLen ps (Pts.put e.args d) && runRd.tagIs tag p cx.tags <;> rw [hb] at hrun <;> simp only [cond_true, cond_false, reduceCtorEq] at hrun
    simp only [Bool.and_eq_true] at hb
    obtain ⟨⟨⟨b1, b2⟩, b3⟩, b4⟩ := hb
    have b1 := Nat.eq_of_beq_eq_true b1
    subst b1
    have b3 := eqLen_eq b3
    unfold runRd.tagIs at b4
    split at b4
    rotate_left
    · cases b4
    rename_i t ht
    have b4 := Nat.eq_of_beq_eq_true b4
    subst b4
    obtain ⟨B', tmps, DB, i1, i2, ⟨asn, bo, i3, i4⟩, i5, i6, i7⟩ := hm'.holds m _ hl
    have hBv : (G.view (idsB e.hp)).box m = some B := by
      have := rho_spec (hin m _ hl).1
      simp [Gh.view, this, hB]
    rw [hBv] at i1; injection i1 with i1; subst i1
    obtain ⟨g, ps0, x, y, hs⟩ : ∃ g ps x y, sub body p = .rangeFunc g ps x y := by
      cases hc : sub body p <;> rw [hc] at hrf <;> first | exact ⟨_, _, _, _, rfl⟩ | cases hrf
    have hcode := ok.tags p t ht g ps0 x y hs
    rw [i3] at hcode
    simp only [Option.some.injEq, Prod.mk.injEq] at hcode
    obtain ⟨rfl, rfl⟩ := hcode
    have hg := run_ok (enc := e.out) ok (hp₀ := bput e.hp d') (fun n bx h => by rw [hids]; exact idsB_look h) (hlab d') _ _ _ _ _ itemsAt_ok hrun
    have hlv := hreps.length
    obtain ⟨j1, j2⟩ := rdFr_ok (n := n) b2 i5 b3 hreps' i6
    have hr0 : Rel w (G.view (idsB e.hp)) (bput e.hp d') (G.view (idsB e.hp)) { n := n, fr := rdFr ps (Pts.put e.args d) fr, hp := bput e.hp d', nx := NX, df := [] } { tmps := (ps.zip vs).foldl (fun (tmps : Array Value) (q : Tmp × Value) => tmps.setIfInBounds q.1 q.2) tmps, defers := [] } w :=
      ⟨⟨[], rfl, rfl⟩, j1, j2, fun k _ hk => by simp [Gh.view, noName hk], blocks_self hm'⟩
    obtain ⟨G1, hr1⟩ := hr0.reB (l := e.hp)
    refine ⟨_, i4, fun c cs => ⟨by simp; omega, ?_⟩⟩
    let b : Frame := { (default : Frame) with fn := cx.f, kind := .normal, roundOf := some B }
    have := hg w _ _ _ w hr1 b (c :: cs) rfl rfl (by unfold RdOk; rw [hrd]; exact ⟨B, _, hBv, hl, rfl⟩)
    obtain ⟨v, w', ⟨G', h1, h2⟩, h3⟩ := this c cs rfl
    refine ⟨v, w', ⟨v, G', rfl, h1.only hin, h2⟩, ?_⟩
    have e1 : Frame.round B cx.f ((ps.toArray.zip vs.toArray).foldl (fun tmps (t, a) => tmps.setIfInBounds t a) tmps) asn bo .normal = b.atR { tmps := (ps.zip vs).foldl (fun (tmps : Array Value) (q : Tmp × Value) => tmps.setIfInBounds q.1 q.2) tmps, defers := [] } (items (itemsAt body [(0, 0 :: p), (4, []), (0, 1 :: p)])) := by
      simp [Frame.round, Frame.atR, b, items, itemsAt, itemAt, sub, hs, child, List.zip_toArray]
    simp only at e1 ⊢
    rw [e1]
    exact h3
  · cases hrun
/-- a label's function out of the body behind it -/
theorem LabOk.of_run {cx : Cx} {body : Code} {hp₀ : List (Nat × Box)} {R : Type} {enc : RS R} {labs : List (Lab R)} (ok : cx.Ok body) (hid : ∀ n bx, look hp₀ n = some bx → lookN cx.ids n = some n) (hlab : ∀ l ∈ labs, LabOk cx hp₀ enc body l) {l : Lab R}
    (h : ∀ d, run cx enc labs 1000000 false (itemsAt body l.key) (l.ls.st d) = l.F d) : LabOk cx hp₀ enc body l := fun d r hr => by
  have := h d
  rw [hr] at this
  exact run_ok ok hid hlab _ _ _ _ _ itemsAt_ok this
end Go.Sym
/- Words for printed texts. -/
namespace Go.Sym
open Go.RowKit
def bodyOf (f : Func) : Code := match f.body with
  | some c => c
  | none => .skip
/-- wrapping to 64 bits -/
def w64 (n : Int) : Int := IntKind.i64.wrap n
section
variable [LC] {cx : Cx} {hp₀ : List (Nat × Box)} {R : Type} {enc : RS R} {body : Code} {P : Program}
theorem labs0 : ∀ l ∈ ([] : List (Lab R)), LabOk cx hp₀ enc body l := fun _ h => by cases h
theorem labs1 {l : Lab R} {ls : List (Lab R)} (h : LabOk cx hp₀ enc body l) (k : ∀ x ∈ ls, LabOk cx hp₀ enc body x) : ∀ x ∈ l :: ls, LabOk cx hp₀ enc body x := fun x hx => by
  rcases List.mem_cons.1 hx with rfl | hx
  · exact h
  · exact k x hx
theorem ents0 : ∀ e ∈ ([] : List Ent), e.Sound P := fun _ h => by cases h
theorem ents1 {e : Ent} {es : List Ent} (h : e.Sound P) (k : ∀ x ∈ es, x.Sound P) : ∀ x ∈ e :: es, x.Sound P := fun x hx => by
  rcases List.mem_cons.1 hx with rfl | hx
  · exact h
  · exact k x hx
theorem tags0 : ∀ p t, lookT p [] = some t → ∀ g ps x y, sub body p = .rangeFunc g ps x y → LC.lc t = some (x, y) := fun _ _ h => by cases h
theorem tags1 {p : List Nat} {t : Nat} {tags : List (List Nat × Nat)} (h : LC.lc t = some (child 0 (sub body p), child 1 (sub body p))) (k : ∀ p t, lookT p tags = some t → ∀ g ps x y, sub body p = .rangeFunc g ps x y → LC.lc t = some (x, y)) :
    ∀ q u, lookT q ((p, t) :: tags) = some u → ∀ g ps x y, sub body q = .rangeFunc g ps x y → LC.lc u = some (x, y) := fun q u hq g ps x y hs => by
  simp only [lookT] at hq
  cases hb : eqNs p q
  · rw [hb] at hq; exact k q u hq g ps x y hs
  · rw [hb] at hq
    simp only [cond_true, Option.some.injEq] at hq
    subst hq
    have := eqNs_eq hb; subst this
    rw [h, hs]; rfl
end
end Go.Sym
/- Printed texts in short: what a function (or a round) is reckoned by, its labels, its proof. -/
namespace Go.Sym
open Go.RowKit
abbrev Bs : Type := List UInt8
/-- a way through a body, as a number's digits -/
def pbits : Nat → Nat → List Nat
  | 0, _ => []
  | f + 1, n => bif Nat.ble n 1 then [] else Nat.mod n 2 :: pbits f (Nat.div n 2)
def pkey : List (Nat × Nat) → PKey
  | [] => []
  | (k, n) :: r => (k, pbits 200 n) :: pkey r
/- holes of patterns, in a row -/
mutual
def Pt.ts : Pt → List Type → List Type
  | .h τ, a => τ.den :: a
  | .agg ps, a => Pts.ts ps a
  | .tup ps, a => Pts.ts ps a
  | .fn _ ps, a => Pts.ts ps a
  | .arr τ, a => List τ.den :: a
  | _, a => a
def Pts.ts : List Pt → List Type → List Type
  | [], a => a
  | p :: ps, a => p.ts (Pts.ts ps a)
end
def HL : List Type → Type
  | [] => Unit
  | t :: l => t × HL l
abbrev hl0 : HL [] := ()
mutual
def Pt.pk : (p : Pt) → {a : List Type} → p.den → HL a → HL (p.ts a)
  | .h _, _, d, x => (d, x)
  | .agg ps, _, d, x => Pts.pk ps d x
  | .tup ps, _, d, x => Pts.pk ps d x
  | .fn _ ps, _, d, x => Pts.pk ps d x
  | .arr _, _, d, x => (d, x)
  | .c _, _, _, x => x
  | .ptr _ _, _, _, x => x
  | .own _, _, _, x => x
  | .el _ _, _, _, x => x
  | .iel _ _ _, _, _, x => x
  | .yld _, _, _, x => x
  | .pn _, _, _, x => x
  | .u, _, _, x => x
def Pts.pk : (ps : List Pt) → {a : List Type} → Pts.den ps → HL a → HL (Pts.ts ps a)
  | [], _, _, x => x
  | p :: ps, _, d, x => p.pk d.1 (Pts.pk ps d.2 x)
end
mutual
def Pt.un : (p : Pt) → {a : List Type} → HL (p.ts a) → p.den × HL a
  | .h _, _, x => x
  | .agg ps, _, x => Pts.un ps x
  | .tup ps, _, x => Pts.un ps x
  | .fn _ ps, _, x => Pts.un ps x
  | .arr _, _, x => x
  | .c _, _, x => ((), x)
  | .ptr _ _, _, x => ((), x)
  | .own _, _, x => ((), x)
  | .el _ _, _, x => ((), x)
  | .iel _ _ _, _, x => ((), x)
  | .yld _, _, x => ((), x)
  | .pn _, _, x => ((), x)
  | .u, _, x => ((), x)
def Pts.un : (ps : List Pt) → {a : List Type} → HL (Pts.ts ps a) → Pts.den ps × HL a
  | [], _, x => ((), x)
  | p :: ps, _, x => (((p.un x).1, (Pts.un ps (p.un x).2).1), (Pts.un ps (p.un x).2).2)
end
mutual
theorem Pt.un_pk : ∀ (p : Pt) {a : List Type} (d : p.den) (x : HL a), p.un (p.pk d x) = (d, x)
  | .h _, _, _, _ => rfl
  | .agg ps, _, d, x => Pts.un_pk ps d x
  | .tup ps, _, d, x => Pts.un_pk ps d x
  | .fn _ ps, _, d, x => Pts.un_pk ps d x
  | .arr _, _, _, _ => rfl
  | .c _, _, _, _ => rfl
  | .ptr _ _, _, _, _ => rfl
  | .own _, _, _, _ => rfl
  | .el _ _, _, _, _ => rfl
  | .iel _ _ _, _, _, _ => rfl
  | .yld _, _, _, _ => rfl
  | .pn _, _, _, _ => rfl
  | .u, _, _, _ => rfl
theorem Pts.un_pk : ∀ (ps : List Pt) {a : List Type} (d : Pts.den ps) (x : HL a), Pts.un ps (Pts.pk ps d x) = (d, x)
  | [], _, _, _ => rfl
  | p :: ps, _, d, x => by
    show (((p.un (p.pk d.1 (Pts.pk ps d.2 x))).1, (Pts.un ps (p.un (p.pk d.1 (Pts.pk ps d.2 x))).2).1), (Pts.un ps (p.un (p.pk d.1 (Pts.pk ps d.2 x))).2).2) = (d, x)
    rw [Pt.un_pk p, Pts.un_pk ps]; rfl
end
def fts : List (Nat × Pt) → List Type → List Type
  | [], a => a
  | (_, p) :: r, a => p.ts (fts r a)
def fpk : (l : List (Nat × Pt)) → {a : List Type} → fden l → HL a → HL (fts l a)
  | [], _, _, x => x
  | (_, p) :: r, _, d, x => p.pk d.1 (fpk r d.2 x)
def fun_ : (l : List (Nat × Pt)) → {a : List Type} → HL (fts l a) → fden l × HL a
  | [], _, x => ((), x)
  | (_, p) :: r, _, x => (((p.un x).1, (fun_ r (p.un x).2).1), (fun_ r (p.un x).2).2)
theorem fun_pk : ∀ (l : List (Nat × Pt)) {a : List Type} (d : fden l) (x : HL a), fun_ l (fpk l d x) = (d, x)
  | [], _, _, _ => rfl
  | (_, p) :: r, _, d, x => by
    show (((p.un (p.pk d.1 (fpk r d.2 x))).1, (fun_ r (p.un (p.pk d.1 (fpk r d.2 x))).2).1), (fun_ r (p.un (p.pk d.1 (fpk r d.2 x))).2).2) = (d, x)
    rw [Pt.un_pk p, fun_pk r]; rfl
def BPt.ts : BPt → List Type → List Type
  | .cells ps _, a => Pts.ts ps a
  | .row τ _, a => List τ.den :: a
  | .loop _ _ _ _ fr _ _ _, a => fts fr a
  | .dfr, a => a
  | .it, a => List UInt8 :: Nat :: a
  | .dead, a => a
  | .dat τ _, a => τ.den :: a
def BPt.pk : (p : BPt) → {a : List Type} → p.den → HL a → HL (p.ts a)
  | .cells ps _, _, d, x => Pts.pk ps d x
  | .row _ _, _, d, x => (d, x)
  | .loop _ _ _ _ fr _ _ _, _, d, x => fpk fr d x
  | .dfr, _, _, x => x
  | .it, _, d, x => (d.1, (d.2, x))
  | .dead, _, _, x => x
  | .dat _ _, _, d, x => (d, x)
def BPt.un : (p : BPt) → {a : List Type} → HL (p.ts a) → p.den × HL a
  | .cells ps _, _, x => Pts.un ps x
  | .row _ _, _, x => x
  | .loop _ _ _ _ fr _ _ _, _, x => fun_ fr x
  | .dfr, _, x => ((), x)
  | .it, _, x => ((x.1, x.2.1), x.2.2)
  | .dead, _, x => ((), x)
  | .dat _ _, _, x => x
theorem BPt.un_pk : ∀ (p : BPt) {a : List Type} (d : p.den) (x : HL a), p.un (p.pk d x) = (d, x)
  | .cells ps _, _, d, x => Pts.un_pk ps d x
  | .row _ _, _, _, _ => rfl
  | .loop _ _ _ _ fr _ _ _, _, d, x => fun_pk fr d x
  | .dfr, _, _, _ => rfl
  | .it, _, _, _ => rfl
  | .dead, _, _, _ => rfl
  | .dat _ _, _, _, _ => rfl
def bts : List (Nat × BPt) → List Type → List Type
  | [], a => a
  | (_, p) :: r, a => p.ts (bts r a)
def bpk : (l : List (Nat × BPt)) → {a : List Type} → bden l → HL a → HL (bts l a)
  | [], _, _, x => x
  | (_, p) :: r, _, d, x => p.pk d.1 (bpk r d.2 x)
def bun : (l : List (Nat × BPt)) → {a : List Type} → HL (bts l a) → bden l × HL a
  | [], _, x => ((), x)
  | (_, p) :: r, _, x => (((p.un x).1, (bun r (p.un x).2).1), (bun r (p.un x).2).2)
theorem bun_pk : ∀ (l : List (Nat × BPt)) {a : List Type} (d : bden l) (x : HL a), bun l (bpk l d x) = (d, x)
  | [], _, _, _ => rfl
  | (_, p) :: r, _, d, x => by
    show (((p.un (p.pk d.1 (bpk r d.2 x))).1, (bun r (p.un (p.pk d.1 (bpk r d.2 x))).2).1), (bun r (p.un (p.pk d.1 (bpk r d.2 x))).2).2) = (d, x)
    rw [BPt.un_pk p, bun_pk r]; rfl
/- curried functions -/
abbrev Cur : List Type → Type → Type
  | [], R => R
  | t :: l, R => t → Cur l R
def app {R : Type} : {l : List Type} → Cur l R → HL l → R
  | [], f, _ => f
  | _ :: _, f, x => app (f x.1) x.2
/- products without a unit at their end -/
abbrev Nc : List Type → Type
  | [] => Unit
  | [t] => t
  | t :: u :: l => t × Nc (u :: l)
def Nc.fro : (l : List Type) → HL l → Nc l
  | [], _ => ()
  | [_], x => x.1
  | _ :: u :: l, x => (x.1, Nc.fro (u :: l) x.2)
def Nc.to : (l : List Type) → Nc l → HL l
  | [], _ => ()
  | [_], x => (x, ())
  | _ :: u :: l, x => (x.1, Nc.to (u :: l) x.2)
theorem Nc.to_fro : ∀ (l : List Type) (x : HL l), Nc.to l (Nc.fro l x) = x
  | [], _ => rfl
  | [_], _ => rfl
  | _ :: u :: l, x => by
    show (x.1, Nc.to (u :: l) (Nc.fro (u :: l) x.2)) = x
    rw [Nc.to_fro]; rfl
/-- one way of handing back -/
def RS.mk (p : Pt) (hp : List (Nat × BPt)) : RS (Nc (p.ts (bts hp []))) :=
  .one p hp (fun x => ((p.un (Nc.to _ x)).1, (bun hp (p.un (Nc.to _ x)).2).1)) (fun y => Nc.fro _ (p.pk y.1 (bpk hp y.2 hl0))) fun y => by
    obtain ⟨d, d'⟩ := y
    show ((p.un (Nc.to _ (Nc.fro _ (p.pk d (bpk hp d' hl0))))).1, (bun hp (p.un (Nc.to _ (Nc.fro _ (p.pk d (bpk hp d' hl0))))).2).1) = (d, d')
    rw [Nc.to_fro, Pt.un_pk, bun_pk]
/-- what is said of a function ahead of its body -/
structure IF : Type 1 where
  key : Key
  args : List Pt
  hp : List (Nat × BPt)
  R : Type
  out : RS R
abbrev IF.T (i : IF) : Type := Cur (Pts.ts i.args (bts i.hp [])) (Option i.R)
def IF.e (i : IF) (r : i.T) : Ent := ⟨i.key, i.args, i.hp, i.R, fun d d' => app r (Pts.pk i.args d (bpk i.hp d' hl0)), i.out⟩
abbrev KL : Type := PKey × LS
abbrev KL.T (l : KL) (R : Type) : Type := Cur (fts l.2.fr (bts l.2.hp [])) (Option R)
def KL.lab {R : Type} (l : KL) (r : l.T R) : Lab R := ⟨l.1, l.2, fun d => app r (fpk l.2.fr d.1 (bpk l.2.hp d.2 hl0))⟩
def kl : Nat → List KL → KL
  | _, [] => ([], ⟨0, [], [], 0, []⟩)
  | 0, l :: _ => l
  | n + 1, _ :: r => kl n r
def rdOf : Key → Option Nat
  | .yld m => some m
  | _ => none
section
variable [LC] {P : Program} {i : IF}
/-- an entry with its proof -/
structure EP (P : Program) : Type 1 where
  e : Ent
  h : e.Sound P
structure EI (P : Program) (i : IF) where
  f : i.T
  h : (i.e f).Sound P
def EI.p (s : EI P i) : EP P := ⟨i.e s.f, s.h⟩
def EP.es {P : Program} : List (EP P) → List Ent
  | [] => []
  | x :: l => x.e :: EP.es l
theorem EP.es_ok {P : Program} : ∀ {l : List (EP P)}, ∀ e ∈ EP.es l, e.Sound P
  | [], _, h => by cases h
  | x :: _, e, h => by
    rcases List.mem_cons.1 h with rfl | h
    · exact x.h
    · exact EP.es_ok e h
structure Fx (P : Program) (i : IF) : Type 1 where
  etys : List (Nat × Ty)
  hm : P.follows .mixedOrders = true
  fn : Func
  f : FuncId
  hf : P.funcs[f]? = some fn
  calls : List (EP P)
  sub : Bool
  tags : List (List Nat × Nat)
  ht : ∀ p t, lookT p tags = some t → ∀ g ps x y, Sym.sub (bodyOf fn) p = .rangeFunc g ps x y → LC.lc t = some (x, y)
  ls : List KL
def Fx.body (x : Fx P i) : Code := bodyOf x.fn
def Fx.cx (x : Fx P i) : Cx := { P, tb := ⟨EP.es x.calls, x.etys, x.sub⟩, fn := x.fn, f := x.f, ids := idsB i.hp, rd := rdOf i.key, tags := x.tags }
theorem Fx.ok (x : Fx P i) : x.cx.Ok x.body := ⟨EP.es_ok, x.hm, x.hf, x.ht⟩
/-- a label's function with its proof -/
structure PL (x : Fx P i) (k : Nat) where
  f : (kl k x.ls).T i.R
  h : ∀ d', LabOk x.cx (bput i.hp d') i.out x.body ((kl k x.ls).lab f)
abbrev Fx.L (x : Fx P i) (k : Nat) := PL x k
structure SL (x : Fx P i) where
  q : Lab i.R
  h : ∀ d', LabOk x.cx (bput i.hp d') i.out x.body q
def PL.s {x : Fx P i} {k : Nat} (p : PL x k) : SL x := ⟨(kl k x.ls).lab p.f, p.h⟩
def SL.qs {x : Fx P i} : List (SL x) → List (Lab i.R)
  | [] => []
  | s :: l => s.q :: SL.qs l
theorem SL.qs_ok {x : Fx P i} {d' : bden i.hp} : ∀ {l : List (SL x)}, ∀ q ∈ SL.qs l, LabOk x.cx (bput i.hp d') i.out x.body q
  | [], _, h => by cases h
  | s :: _, q, h => by
    rcases List.mem_cons.1 h with rfl | h
    · exact s.h d'
    · exact SL.qs_ok q h
/-- a label out of the body behind it -/
def Fx.jn {x : Fx P i} {k : Nat} (f : (kl k x.ls).T i.R) (l : List (SL x))
    (h : ∀ d, run x.cx i.out (SL.qs l) 1000000 false (itemsAt x.body (kl k x.ls).1) ((kl k x.ls).2.st d) = app f (fpk (kl k x.ls).2.fr d.1 (bpk (kl k x.ls).2.hp d.2 ()))) : PL x k :=
  ⟨f, fun _ => LabOk.of_run x.ok (fun _ _ h => idsB_look h) (SL.qs_ok) h⟩
/-- a loop's head -/
def Fx.lp {x : Fx P i} {k : Nat} (g : Nat → (kl k x.ls).T i.R) (b : (kl k x.ls).T i.R → (kl k x.ls).T i.R) (h0 : ∀ d : (kl k x.ls).2.den, app (g 0) (fpk (kl k x.ls).2.fr d.1 (bpk (kl k x.ls).2.hp d.2 ())) = none) (hg : ∀ n, g (n + 1) = b (g n)) (l : PL x k → List (SL x))
    (h : ∀ r d, run x.cx i.out (SL.qs (l r)) 1000000 false (itemsAt x.body (kl k x.ls).1) ((kl k x.ls).2.st d) = app (b r.f) (fpk (kl k x.ls).2.fr d.1 (bpk (kl k x.ls).2.hp d.2 ()))) (n : Nat) : PL x k :=
  ⟨g n, by
    induction n with
    | zero => intro d' d r hr; have := h0 d; rw [show ((kl k x.ls).lab (g 0)).F d = none from this] at hr; cases hr
    | succ n ih => rw [hg]; exact (Fx.jn (b (g n)) (l ⟨g n, ih⟩) (h ⟨g n, ih⟩)).h⟩
/-- a whole function -/
def Fx.fin (x : Fx P i) (f : i.T) (l : List (SL x)) (hp : Plain P x.f) (hk : i.key = .fn x.f) (hb : x.fn.body = some x.body) (hfine : fnFine x.cx i.args i.hp = true)
    (h : ∀ d d', runFn x.cx x.body i.out (SL.qs l) i.args i.hp (Pts.put i.args d) (bput i.hp d') = app f (Pts.pk i.args d (bpk i.hp d' hl0))) : EI P i :=
  ⟨f, Ent.sound_fn (e := i.e f) (cx := x.cx) (labs := SL.qs l) x.ok hk hb (show rdOf i.key = none by rw [hk]; rfl) rfl hp hfine (fun _ => SL.qs_ok) h⟩
/-- a round -/
def Fx.fiy (x : Fx P i) (f : i.T) (l : List (SL x)) (m : Nat) (hk : i.key = .yld m) (p : List Nat) (hb : isRF (Sym.sub x.body p) = true) (hfine : (ptsIn (idsB i.hp) i.args && bIn (idsB i.hp) i.hp) = true)
    (h : ∀ d d', runRd x.cx x.body p m i.out (SL.qs l) i.hp (Pts.put i.args d) (bput i.hp d') = app f (Pts.pk i.args d (bpk i.hp d' hl0))) : EI P i :=
  ⟨f, Ent.sound_yld (e := i.e f) (cx := x.cx) (labs := SL.qs l) (p := p) (m := m) x.ok hk (show rdOf i.key = some m by rw [hk]; rfl) rfl hb hfine (fun _ => SL.qs_ok) h⟩
/-- a function that calls itself -/
def EI.rc (g : Nat → i.T) (b : i.T → i.T) (h0 : ∀ d d', app (g 0) (Pts.pk i.args d (bpk i.hp d' hl0)) = none) (hg : ∀ n, g (n + 1) = b (g n)) (s : EI P i → EI P i) (hs : ∀ r, (s r).f = b r.f) (n : Nat) : EI P i :=
  ⟨g n, by
    induction n with
    | zero => intro d d' r hr; have := h0 d d'; rw [show (i.e (g 0)).F d d' = none from this] at hr; cases hr
    | succ n ih => rw [hg, ← hs ⟨g n, ih⟩]; exact (s ⟨g n, ih⟩).h⟩
end
end Go.Sym
/- Plain functions of the library's functions whose contracts are the kit's: Itoa, Index, Clone. -/
namespace Go.Sym
def F_strconv_Itoa (n : Int) : Option Bs := bif decide (-9223372036854775808 ≤ n ∧ n ≤ 9223372036854775807) then some (Lib.itoa n) else none
def F_bytes_Index (s sep : Bs) : Option Int := bif decide (2 ≤ List.length sep ∧ List.length s < 4294967281 ∧ List.length sep ≤ maxLen) then some (Lib.index s sep) else none
def F_slices_Clone {α : Type} (l : List α) : Option (List α) := bif decide (List.length l ≤ rowMax) then some l else none
end Go.Sym
/- Plain functions of strings.ReplaceAll and strings.Repeat. -/
namespace Go.Sym
def F_strings_ReplaceAll (s old new : Bs) : Option Bs := bif decide (1 ≤ List.length old ∧ List.length s < 4294967281 ∧ List.length s + List.length s * List.length new ≤ 140737488355328) then some (Lib.replaceAll s old new) else none
def F_strings_Repeat (s : Bs) (n : Int) : Option Bs := bif decide (0 ≤ n ∧ n ≤ 9223372036854775807 ∧ List.length s * n.toNat ≤ 140737488355328) then some (Lib.repeatL s n.toNat) else none
end Go.Sym
/- Functions without a body that the model answers itself: the entries of internal/bytealg. -/
namespace Go.Sym
open Go.RowKit
variable [LC]

/-- the place of the first such byte -/
def F_bytealg_IndexByte (b : List UInt8) (c : UInt8) : Option Int := some (Lib.indexByte b c)
def F_bytealg_IndexByte_ent (f : FuncId) (r : List UInt8 → UInt8 → Option Int) : Ent := { key := .ext f, args := [.h (.list .byte), .h .byte], hp := [], R := Int, F := fun d _ => r d.1 d.2.1, out := .one (α := Int) (.h (.int .i64)) [] (fun r => (r, ())) (fun y => y.1) (fun _ => rfl) }
def F_bytealg_IndexByteString_ent (f : FuncId) (r : List UInt8 → UInt8 → Option Int) : Ent := { key := .ext f, args := [.h .str, .h .byte], hp := [], R := Int, F := fun d _ => r d.1 d.2.1, out := .one (α := Int) (.h (.int .i64)) [] (fun r => (r, ())) (fun y => y.1) (fun _ => rfl) }
omit [LC] in
theorem byte_back (c : UInt8) : ((c.toNat : Int)).toNat.toUInt8 = c := by simp
theorem indexByteString_ext {P : Program} {f : FuncId} {fn : Func} (hf : P.funcs[f]? = some fn) (hname : (fn.name == "runtime.NumGoroutine") = false) (hb : fn.body.isNone = true) (hn : Extern.findNext fn = none) (he : Extern.find fn = some Extern.BytealgIndexByte.indexByte) (b : List UInt8) (c : UInt8) :
    ExtTo P f [.str b, .byte c] (.int .i64 (Lib.indexByte b c)) := fun w G vs _ hr => by
  match vs, hr with
  | [v1, v2], ⟨h1, h2, _⟩ =>
    have h1 : v1 = .string ⟨b.toArray⟩ := h1
    have h2 : v2 = .int .u8 c.toNat := h2
    subst h1 h2
    refine ⟨.int .i64 (Lib.indexByte b c), ?_, rfl⟩
    rw [run_callFunc_extern hf hname hb hn he, show ([Value.string ⟨b.toArray⟩, .int .u8 c.toNat] : List Value).toArray = #[.string ⟨b.toArray⟩, .int .u8 c.toNat] from rfl, Lib.run_indexByteString, byte_back]
    rfl
theorem indexByte_ext {P : Program} {f : FuncId} {fn : Func} (hf : P.funcs[f]? = some fn) (hname : (fn.name == "runtime.NumGoroutine") = false) (hb : fn.body.isNone = true) (hn : Extern.findNext fn = none) (he : Extern.find fn = some Extern.BytealgIndexByte.indexByte) (b : List UInt8) (c : UInt8) :
    ExtTo P f [.sl .byte b, .byte c] (.int .i64 (Lib.indexByte b c)) := fun w G vs hm hr => by
  match vs, hr with
  | [v1, v2], ⟨h1, h2, _⟩ =>
    have h2 : v2 = .int .u8 c.toNat := h2
    subst h2
    obtain ⟨a, cp, rfl, hc, hl⟩ : SlAt 1 (Ty.byte.At G.imm) b v1 := h1
    refine ⟨.int .i64 (Lib.indexByte b c), ?_, rfl⟩
    rw [run_callFunc_extern hf hname hb hn he]
    have key : ∀ k : Int, (Extern.BytealgIndexByte.indexByte #[.slice a b.length cp, .int .u8 c.toNat]).run P w = .ok (.int .i64 k) w → ((Extern.BytealgIndexByte.indexByte ([Value.slice a b.length cp, .int .u8 c.toNat] : List Value).toArray).run P w).andThen (fun v w' => Result.ok (Next.value v) w') = .ok (.value (.int .i64 k)) w := by
      intro k hk
      have e : ([Value.slice a b.length cp, .int .u8 c.toNat] : List Value).toArray = #[.slice a b.length cp, .int .u8 c.toNat] := rfl
      rw [e, hk]; rfl
    refine key _ ?_
    have bb : Lib.bytesOf (b.map fun x => (x.toNat : Int)) = b := by
      unfold Lib.bytesOf
      rw [List.map_map]
      have : ((fun n : Int => UInt8.ofNat n.toNat) ∘ fun x : UInt8 => (x.toNat : Int)) = id := by funext x; simp
      rw [this, List.map_id]
    rcases hl with rfl | ⟨g, o, rfl, hcells⟩
    · have hs := Lib.run_indexByteString (P := P) .empty (c.toNat : Int) w
      cases a with
      | none => exact hs
      | some ad => exact hs
    · have := Lib.run_indexByteSlice (P := P) (w := w) g o b.length cp (b.map fun x => (x.toNat : Int)) (by simp) (fun i hi => by
        have hk : G.imm g (o + i * 1) = some (.int .u8 b[i].toNat) := hcells i _ (List.getElem?_eq_getElem hi)
        have := hm.agree _ _ _ hk
        rw [Nat.mul_one] at this
        rw [this]
        simp [List.getD_eq_getElem?_getD, hi]) (c.toNat : Int)
      rw [bb, byte_back] at this
      exact this
theorem F_bytealg_IndexByteString_ok {P : Program} {f : FuncId} {fn : Func} (hf : P.funcs[f]? = some fn) (hname : (fn.name == "runtime.NumGoroutine") = false) (hb : fn.body.isNone = true) (hn : Extern.findNext fn = none) (he : Extern.find fn = some Extern.BytealgIndexByte.indexByte) :
    (F_bytealg_IndexByteString_ent f F_bytealg_IndexByte).Sound P := fun d d' r h => by
  have h : some (Lib.indexByte (show List UInt8 from d.1) (show UInt8 from d.2.1)) = some r := h
  have h := Option.some.inj h
  subst h
  exact indexByteString_ext hf hname hb hn he _ _
theorem F_bytealg_IndexByte_ok {P : Program} {f : FuncId} {fn : Func} (hf : P.funcs[f]? = some fn) (hname : (fn.name == "runtime.NumGoroutine") = false) (hb : fn.body.isNone = true) (hn : Extern.findNext fn = none) (he : Extern.find fn = some Extern.BytealgIndexByte.indexByte) :
    (F_bytealg_IndexByte_ent f F_bytealg_IndexByte).Sound P := fun d d' r h => by
  have h : some (Lib.indexByte (show List UInt8 from d.1) (show UInt8 from d.2.1)) = some r := h
  have h := Option.some.inj h
  subst h
  exact indexByte_ext hf hname hb hn he _ _
end Go.Sym
