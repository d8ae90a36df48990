/- Addresses of elements, lengths, structs that are put together; then all operations that leave memory as it is. -/
import Derived.Test.YtlfafgmhjplbeaaSymF
import Derived.Laws.BytesString
import Derived.Laws.BytesArg
namespace Go.Sym
open Go.RowKit
section
variable {P : Program} {w₀ : World} {G₀ : Gh} {hp₀ : List (Nat × Box)} {G : Gh} {s : St} {a : Act} {w : World}

theorem add_plain (b o n : Nat) : Addr.add ⟨b, o, none⟩ n = ⟨b, o + n, none⟩ := by unfold Addr.add; split <;> simp_all

theorem aIndexAddr_ok (hr : Rel w₀ G₀ hp₀ G s a w) {t : TypeId} {x i : AV} {u j : Value} {d : D} (hx : Rep x G u) (hi : Rep i G j) {ps : List Prop} {r : AV} (h : aIndexAddr P s t x i d = some (ps, r)) (hp : Alls ps) :
    ∃ z, (Instr.indexAt t u j).run P w = .ok z w ∧ Rep r G z := by
  unfold aIndexAddr at h
  split at h
  · rename_i E hu
    split at h
    · rename_i sz' k n hsz
      simp only [Rep] at hi; subst hi
      split at h
      · rename_i sz α enc l cs
        cases hq : Nat.beq sz sz' <;> rw [hq] at h <;> simp only [cond_true, cond_false, reduceCtorEq, Option.some.injEq, Prod.mk.injEq] at h
        have hq' : sz = sz' := by simpa using hq
        subst hq'
        obtain ⟨rfl, rfl⟩ := h
        simp only [Alls, and_true] at hp
        obtain ⟨h0, x, hx1, rfl⟩ := hp
        obtain ⟨ad, c, rfl, hc, he, hl⟩ := hx
        have hlt : n.toNat < l.length := (List.getElem?_eq_some_iff.1 hx1).1
        rcases hl with rfl | ⟨b, o, rfl, hcells⟩
        · simp at hx1
        · refine ⟨.pointer (some ⟨b, o + n.toNat * sz, none⟩), ?_, b, o + n.toNat * sz, rfl, hcells _ _ hx1⟩
          simp [Instr.indexAt, asIntOf, run_underlying' hu, h0, show n < (l.length : Int) by omega, run_sizeOf' hsz, add_plain]
      · rename_i kk d'
        split at h
        · rename_i sz α enc l E' hb
          cases hq : Nat.beq sz sz' <;> rw [hq] at h <;> simp only [cond_true, cond_false, reduceCtorEq, Option.some.injEq, Prod.mk.injEq] at h
          have hq' : sz = sz' := by simpa using hq
          subst hq'
          obtain ⟨rfl, rfl⟩ := h
          simp only [Alls, and_true] at hp
          obtain ⟨h0, hlt⟩ := hp
          obtain ⟨ad, c, ho, he, hl⟩ := hr.fin.mem.holds _ _ hb
          obtain ⟨ad', n', c', ho', rfl⟩ := hx
          rw [ho] at ho'; simp only [Option.some.injEq, Prod.mk.injEq] at ho'
          obtain ⟨rfl, rfl, rfl⟩ := ho'
          rcases hl with ⟨_, rfl, _⟩ | ⟨g, vs, fz, rfl, _⟩
          · simp at hlt
          · refine ⟨.pointer (some ⟨g, n.toNat * sz, none⟩), ?_, g, _, _, ho, by simp⟩
            simp [Instr.indexAt, asIntOf, run_underlying' hu, h0, show n < (l.length : Int) by omega, run_sizeOf' hsz, add_plain]
        · cases h
      · cases h
    · cases h
  · rename_i len E hu
    split at h
    · rename_i sz k n b off hsz
      simp only [Rep] at hi; subst hi
      simp only [Option.some.injEq, Prod.mk.injEq] at h
      obtain ⟨rfl, rfl⟩ := h
      simp only [Alls, and_true] at hp
      obtain ⟨B, hB, rfl⟩ := hx
      refine ⟨.pointer (some ⟨B, off + n.toNat * sz, none⟩), ?_, B, hB, rfl⟩
      simp [Instr.indexAt, asIntOf, run_underlying' hu, hp, run_sizeOf' hsz, add_plain, Instr.sureAddr]
    · cases h
  · cases h

theorem aLen_ok (hr : Rel w₀ G₀ hp₀ G s a w) {t ty : TypeId} {x : AV} {u : Value} (hx : Rep x G u) {ps : List Prop} {r : AV} (h : aLen P s t x = some (ps, r)) : ∃ z, (Builtin.len_ #[t] ty #[u]).run P w = .ok z w ∧ Rep r G z := by
  unfold aLen at h
  split at h
  · rename_i b hu
    simp only [Rep] at hx; subst hx
    simp only [Option.some.injEq, Prod.mk.injEq] at h; obtain ⟨_, rfl⟩ := h
    have hb : (⟨b.toArray⟩ : ByteArray).size = b.length := by simp [ByteArray.size]
    exact ⟨goInt b.length, by simp [Builtin.len_, run_underlying' hu, hb], rfl⟩
  · rename_i E sz α enc l hu
    obtain ⟨ad, c, rfl, _⟩ := hx
    simp only [Option.some.injEq, Prod.mk.injEq] at h; obtain ⟨_, rfl⟩ := h
    exact ⟨goInt l.length, by simp [Builtin.len_, run_underlying' hu], rfl⟩
  · rename_i E k hu
    split at h
    · rename_i sz α enc l E' hb
      obtain ⟨ad, c, ho, he, hl⟩ := hr.fin.mem.holds _ _ hb
      obtain ⟨ad', n', c', ho', rfl⟩ := hx
      rw [ho] at ho'; simp only [Option.some.injEq, Prod.mk.injEq] at ho'
      obtain ⟨rfl, rfl, rfl⟩ := ho'
      simp only [Option.some.injEq, Prod.mk.injEq] at h; obtain ⟨_, rfl⟩ := h
      exact ⟨goInt l.length, by simp [Builtin.len_, run_underlying' hu], rfl⟩
    · cases h
  · rename_i E hu
    simp only [Rep] at hx; subst hx
    simp only [Option.some.injEq, Prod.mk.injEq] at h; obtain ⟨_, rfl⟩ := h
    exact ⟨goInt 0, by simp [Builtin.len_, run_underlying' hu], rfl⟩
  · cases h

theorem fplaces_eq : ∀ {fs : List Field} {r : List (Nat × Nat)}, fplaces P fs = some r → fs.mapM (fun f => (P.info? f.type).map fun i => (f.offset, i.size)) = some r
  | [], r, h => by simp only [fplaces, Option.some.injEq] at h; subst h; rfl
  | f :: fs, r, h => by
    simp only [fplaces] at h
    split at h
    · cases h
    · rename_i n hn
      split at h
      · cases h
      · rename_i r' hr'
        simp only [Option.some.injEq] at h; subst h
        unfold tSize at hn
        split at hn
        · rename_i i hi
          simp only [Option.some.injEq] at hn; subst hn
          simp [List.mapM_cons, hi, fplaces_eq hr']
        · cases hn
def PRel (G : Gh) : List (Nat × AV) → List (Nat × Value) → Prop
  | [], [] => True
  | x :: xs, y :: ys => (x.1 = y.1 ∧ Rep x.2 G y.2) ∧ PRel G xs ys
  | _, _ => False
theorem aparts_ok (hr : Rel w₀ G₀ hp₀ G s a w) : ∀ {ps : List (Nat × Operand)} {vs : List (Nat × AV)}, aparts s ps = some vs → PRel G vs (ps.map fun p => (p.1, a.eval p.2))
  | [], vs, h => by simp only [aparts, Option.some.injEq] at h; subst h; trivial
  | (i, x) :: ps, vs, h => by
    simp only [aparts] at h
    split at h
    · cases h
    · rename_i v hv
      split at h
      · cases h
      · rename_i us hus
        simp only [Option.some.injEq] at h; subst h
        exact ⟨⟨rfl, ev_ok hr hv⟩, aparts_ok hr hus⟩

/-- the model's way to write the cells of a part -/
theorem fold_set (cs : Array Value) (off : Nat) : ∀ (vs : List Value) (k : Nat), ((vs.zipIdx k).foldl (fun (cs : Array Value) (p : Value × Nat) => cs.setIfInBounds (off + p.2) p.1) cs).toList = (vs.zipIdx k).foldl (fun (l : List Value) p => l.set (off + p.2) p.1) cs.toList
  | [], k => rfl
  | v :: vs, k => by
    simp only [List.zipIdx_cons, List.foldl_cons]
    rw [fold_set _ off vs (k + 1)]; simp
theorem reps_splice : ∀ {xs cs : List AV} {us vs : List Value} (off k : Nat), Reps cs G us → Reps xs G vs → Reps (splice cs (off + k) xs) G ((vs.zipIdx k).foldl (fun (l : List Value) p => l.set (off + p.2) p.1) us)
  | [], _, _, [], _, _, h, _ => h
  | x :: xs, cs, us, v :: vs, off, k, h, hx => by
    simp only [List.zipIdx_cons, List.foldl_cons, splice]
    have := reps_splice (xs := xs) (vs := vs) off (k + 1) (reps_set (off + k) h hx.1) hx.2
    simpa [Nat.add_assoc] using this
  | [], _, _, _ :: _, _, _, _, h => h.elim
  | _ :: _, _, _, [], _, _, _, h => h.elim
theorem splice_length : ∀ (xs cs : List AV) (off : Nat), (splice cs off xs).length = cs.length
  | [], _, _ => rfl
  | x :: xs, cs, off => by rw [splice, splice_length]; simp
theorem Rep.cells {x : AV} {u : Value} (h : Rep x G u) (ho : AV.ones x.cells = true) : Reps x.cells G u.cells.toList := by
  cases x with
  | agg cs => obtain ⟨vs, rfl, hv⟩ := h; exact hv
  | _ =>
    have h1 := rep_one h (by simpa [AV.ones, AV.cells] using ho)
    have h2 : u.cells.toList = [u] := by cases u <;> first | rfl | cases h1
    rw [h2]; exact ⟨h, trivial⟩
theorem afill_ok {place : Nat → Option (Nat × Nat)} : ∀ {ps : List (Nat × AV)} {vs : List (Nat × Value)} {cs : List AV} {us : Array Value} {cs' : List AV},
    PRel G ps vs → Reps cs G us.toList → afill place cs ps = some cs' → ∃ us', Instr.fill place us vs = some us' ∧ Reps cs' G us'.toList
  | [], [], cs, us, cs', _, h, hf => by simp only [afill, Option.some.injEq] at hf; subst hf; exact ⟨us, rfl, h⟩
  | [], _ :: _, _, _, _, h, _, _ => h.elim
  | _ :: _, [], _, _, _, h, _, _ => h.elim
  | (i, x) :: ps, (j, v) :: vs, cs, us, cs', hxt, h, hf => by
    obtain ⟨⟨hij, hx⟩, ht⟩ := hxt
    simp only at hij hx
    subst hij
    simp only [afill] at hf
    split at hf
    · cases hf
    · rename_i off size hpl
      cases hb : Nat.beq x.cells.length size && Nat.ble (off + size) cs.length && AV.ones x.cells <;> rw [hb] at hf <;> simp only [cond_true, cond_false, reduceCtorEq] at hf
      simp only [Bool.and_eq_true, Nat.beq_eq_true_eq, Nat.ble_eq] at hb
      obtain ⟨⟨hb1, hb2⟩, hb3⟩ := hb
      have hcs := hx.cells hb3
      have hl1 := hcs.length
      have hl2 := h.length
      have hr2 := reps_splice (G := G) off 0 h hcs
      obtain ⟨us', hu1, hu2⟩ := afill_ok (us := (v.cells.zipIdx.foldl (fun cs (c, j) => cs.setIfInBounds (off + j) c) us)) ht (by
        rw [← Array.foldl_toList, Array.toList_zipIdx, fold_set]; exact hr2) hf
      refine ⟨us', ?_, hu2⟩
      have e1 : v.cells.size = size := by rw [← Nat.eq_of_beq_eq_true hb1, hl1, Array.length_toList]
      have e2 : off + v.cells.size ≤ us.size := by rw [e1, ← Array.length_toList, ← hl2]; exact hb2
      rw [Instr.fill, hpl]
      simp only [e1, ne_eq, not_true_eq_false, decide_false, Bool.false_or, decide_eq_true_eq]
      rw [if_neg (by omega)]
      exact hu1
theorem aBuild_ok (hr : Rel w₀ G₀ hp₀ G s a w) {T : TypeId} {parts : Array (Nat × Operand)} {ps : List Prop} {r : AV} (h : aBuild P s T parts.toList = some (ps, r)) : ∃ z, (Instr.build T (parts.map fun (i, x) => (i, a.eval x))).run P w = .ok z w ∧ Rep r G z := by
  unfold aBuild at h
  split at h
  · rename_i z ps' hz hps
    obtain ⟨zv, hzv, hzr⟩ := run_zero' hz w G
    have hpp := aparts_ok hr hps
    have hm : (parts.map fun (i, x) => (i, a.eval x)).toList = parts.toList.map fun p => (p.1, a.eval p.2) := by simp
    split at h
    · rename_i fs hu
      split at h
      · rename_i places hpl
        split at h
        · rename_i cs hf
          simp only [Option.some.injEq, Prod.mk.injEq] at h; obtain ⟨_, rfl⟩ := h
          obtain ⟨us', hu1, hu2⟩ := afill_ok hpp hzr hf
          refine ⟨.agg us', ?_, us', rfl, hu2⟩
          rw [← hm] at hu1
          simp [Instr.build, hzv, run_underlying' hu, Array.mapM_eq_mapM_toList, run_places w _ _ (fplaces_eq hpl)]
          simp at hu1
          rw [hu1]; simp
        · cases h
      · cases h
    · rename_i n e hu
      split at h
      · rename_i sz hs
        split at h
        · rename_i cs hf
          simp only [Option.some.injEq, Prod.mk.injEq] at h; obtain ⟨_, rfl⟩ := h
          obtain ⟨us', hu1, hu2⟩ := afill_ok hpp hzr hf
          refine ⟨.agg us', ?_, us', rfl, hu2⟩
          rw [← hm] at hu1
          simp [Instr.build, hzv, run_underlying' hu, run_sizeOf' hs]
          simp at hu1
          rw [hu1]; simp
        · cases h
      · cases h
    · cases h
  · cases h

theorem evInt_ok (hr : Rel w₀ G₀ hp₀ G s a w) {x : Option Operand} {n : Option Int} (h : evInt s x = some n) : (x = none ∧ n = none) ∨ ∃ y k m, x = some y ∧ n = some m ∧ a.eval y = .int k m := by
  cases x with
  | none => simp only [evInt, Option.some.injEq] at h; exact .inl ⟨rfl, h.symm⟩
  | some y =>
    simp only [evInt] at h
    split at h
    · rename_i k m hy
      simp only [Option.some.injEq] at h
      have := ev_ok hr hy
      simp only [Rep] at this
      exact .inr ⟨y, k, m, rfl, h.symm, this⟩
    · cases h
theorem run_sliceBound' {k : IntKind} {i : Int} {y : Nat} {code : BoundsCode} (h0 : 0 ≤ i) (h1 : i ≤ y) : (Instr.sliceBound (.int k i) y code).run P w = .ok i.toNat w := by
  simp [Instr.sliceBound, asIntOf, h0, h1]
/-- the bounds, run -/
theorem run_cut (hr : Rel w₀ G₀ hp₀ G s a w) {lo hi : Option Operand} {x y : Option Int} (hlo : evInt s lo = some x) (hhi : evInt s hi = some y) {α : Type} {l : List α} (hp : Alls (cut l x y).1) (b : Bool) {c : Nat} (hc : l.length ≤ c) :
    ∃ i j, (Instr.sliceBounds b l.length c (lo.map a.eval) (hi.map a.eval) none).run P w = .ok (i, j, c) w ∧ i ≤ j ∧ j ≤ l.length ∧ (cut l x y).2 = (l.drop i).take (j - i) := by
  rcases evInt_ok hr hlo with ⟨rfl, rfl⟩ | ⟨xo, kx, mx, rfl, rfl, hx⟩ <;> rcases evInt_ok hr hhi with ⟨rfl, rfl⟩ | ⟨yo, ky, my, rfl, rfl, hy⟩
  · exact ⟨0, l.length, by simp [Instr.sliceBounds], by omega, Nat.le_refl _, by simp [cut]⟩
  · simp only [cut, Alls, and_true] at hp
    refine ⟨0, my.toNat, ?_, by omega, by omega, by simp [cut]⟩
    simp [Instr.sliceBounds, hy, run_sliceBound' (P := P) (w := w) hp.1 (show my ≤ (c : Int) by omega)]
  · simp only [cut, Alls, and_true] at hp
    refine ⟨mx.toNat, l.length, ?_, by omega, Nat.le_refl _, ?_⟩
    · simp [Instr.sliceBounds, hx, run_sliceBound' (P := P) (w := w) hp.1 hp.2]
    · simp only [cut]; rw [List.take_of_length_le (by simp)]
  · simp only [cut, Alls, and_true] at hp
    refine ⟨mx.toNat, my.toNat, ?_, by omega, by omega, by simp [cut]⟩
    simp [Instr.sliceBounds, hx, hy, run_sliceBound' (P := P) (w := w) (show 0 ≤ my by omega) (show my ≤ (c : Int) by omega), run_sliceBound' (P := P) (w := w) hp.1 (show mx ≤ (my.toNat : Int) by omega)]
theorem aSlice_ok (hr : Rel w₀ G₀ hp₀ G s a w) {t : TypeId} {x : Operand} {lo hi mx : Option Operand} {ps : List Prop} {r : AV} (h : aSlice P s t x lo hi mx = some (ps, r)) (hp : Alls ps) :
    ∃ z, (Instr.sliceAt t (a.eval x) (lo.map a.eval) (hi.map a.eval) (mx.map a.eval)).run P w = .ok z w ∧ Rep r G z := by
  unfold aSlice at h
  split at h
  · rename_i x1 y1 l hlo hhi hx
    split at h
    · rename_i hu
      simp only [Option.some.injEq, Prod.mk.injEq] at h; obtain ⟨rfl, rfl⟩ := h
      have hx := ev_ok hr hx
      simp only [Rep] at hx
      obtain ⟨i, j, h1, h2, h3, h4⟩ := run_cut (P := P) hr hlo hhi hp false (Nat.le_refl _)
      have hsz : (⟨l.toArray⟩ : ByteArray).size = l.length := by simp [ByteArray.size]
      refine ⟨.string ((⟨l.toArray⟩ : ByteArray).extract i j), ?_, ?_⟩
      · simp [Instr.sliceAt, Instr.slice, run_underlying' hu, hx, hsz, h1]
      · simp only [Rep]
        congr 1
        rw [h4]
        apply ByteArray.ext
        simp [ByteArray.data_extract, List.extract_eq_take_drop]
    · cases h
  · rename_i x1 y1 sz α enc l hlo hhi hx
    split at h
    · rename_i E hu
      split at h
      · rename_i sz' hsz
        cases hq : Nat.beq sz sz' <;> rw [hq] at h <;> simp only [cond_true, cond_false, reduceCtorEq, Option.some.injEq, Prod.mk.injEq] at h
        have hq := Nat.eq_of_beq_eq_true hq
        subst hq
        obtain ⟨rfl, rfl⟩ := h
        obtain ⟨ad, c, hv, hc, he, hl⟩ := ev_ok hr hx
        obtain ⟨i, j, h1, h2, h3, h4⟩ := run_cut (P := P) hr hlo hhi hp true hc
        refine ⟨.slice (if c = i then ad else ad.map (·.add (i * sz))) (j - i) (c - i), ?_, ?_⟩
        · simp [Instr.sliceAt, Instr.slice, run_underlying' hu, hv, h1, run_sizeOf' hsz]
        · rw [h4]
          have hlen : ((l.drop i).take (j - i)).length = j - i := by simp; omega
          refine ⟨_, _, by rw [hlen], by rw [hlen]; omega, fun x hx => he x (List.mem_of_mem_drop (List.mem_of_mem_take hx)), ?_⟩
          rcases hl with rfl | ⟨b, o, rfl, hcells⟩
          · exact .inl (by simp)
          · by_cases hci : c = i
            · exact .inl (List.eq_nil_of_length_eq_zero (by rw [hlen]; omega))
            · refine .inr ⟨b, o + i * sz, by rw [if_neg hci]; simp [add_plain], fun k y hy => ?_⟩
              rw [List.getElem?_take] at hy
              split at hy
              · rw [List.getElem?_drop] at hy
                have := hcells _ _ hy
                rwa [show o + i * sz + k * sz = o + (i + k) * sz by rw [Nat.add_mul]; omega]
              · cases hy
      · cases h
    · cases h
  · cases h

theorem RepCells.append : ∀ {xs ys : List AV} {b o : Nat}, RepCells xs G b o → RepCells ys G b (o + xs.length) → RepCells (xs ++ ys) G b o
  | [], _, _, _, _, h => by simpa using h
  | x :: xs, ys, b, o, ⟨h1, h2⟩, h => ⟨h1, RepCells.append h2 (by simpa [Nat.add_assoc, Nat.add_comm 1] using h)⟩
theorem RepCells.flat {α : Type} {enc : α → List AV} {sz b : Nat} : ∀ {l : List α} {o : Nat}, (∀ x ∈ l, (enc x).length = sz) → (∀ j x, l[j]? = some x → RepCells (enc x) G b (o + j * sz)) → RepCells (l.flatMap enc) G b o
  | [], _, _, _ => trivial
  | x :: l, o, hl, h => by
    rw [List.flatMap_cons]
    refine RepCells.append (by simpa using h 0 x rfl) ?_
    rw [hl x List.mem_cons_self]
    refine RepCells.flat (fun y hy => hl y (List.mem_cons_of_mem _ hy)) (fun j y hy => ?_)
    have := h (j + 1) y (by simpa using hy)
    rwa [Nat.add_mul, Nat.one_mul, ← Nat.add_assoc, Nat.add_right_comm] at this
theorem RepCells.values' : ∀ {xs : List AV} {b o : Nat}, RepCells xs G b o → ∃ vs : List Value, Reps xs G.data vs ∧ ∀ j u, vs[j]? = some u → G.imm b (o + j) = some u
  | [], _, _, _ => ⟨[], trivial, fun j u h => by simp at h⟩
  | x :: xs, b, o, ⟨⟨u, h1, h2⟩, h3⟩ => by
    obtain ⟨vs, k1, k2⟩ := RepCells.values' h3
    refine ⟨u :: vs, ⟨h2, k1⟩, fun j v hv => ?_⟩
    cases j with
    | zero => simp at hv; subst hv; exact h1
    | succ j => simp at hv; rw [show o + (j + 1) = o + 1 + j by omega]; exact k2 j v hv
theorem flat_length {α : Type} {enc : α → List AV} {sz : Nat} : ∀ {l : List α}, (∀ x ∈ l, (enc x).length = sz) → (l.flatMap enc).length = l.length * sz
  | [], _ => by simp
  | x :: l, h => by
    rw [List.flatMap_cons, List.length_append, h x List.mem_cons_self, flat_length (l := l) (fun y hy => h y (List.mem_cons_of_mem _ hy)), List.length_cons, Nat.add_mul]; omega
/-- what is known of a slice that is read -/
theorem src_ok (hr : Rel w₀ G₀ hp₀ G s a w) {x : AV} {v : Value} {flat : List AV} {n : Nat} (hx : Rep x G v) (h : srcOf s x = some (flat, n)) :
    (∃ b : List UInt8, x = .str b ∧ v = .string ⟨b.toArray⟩ ∧ flat = b.map AV.byte ∧ n = b.length) ∨
    ∃ ad c us, v = .slice ad n c ∧ Reps flat G.data us ∧ (∀ u ∈ us, u.oneCell' = true) ∧ (us = [] ∨ ∃ b o, ad = some ⟨b, o, none⟩ ∧ ∀ j u, us[j]? = some u → w.cell? ⟨b, o + j, none⟩ = some u) := by
  unfold srcOf at h
  split at h
  · rename_i sz α enc l
    simp only [Option.some.injEq, Prod.mk.injEq] at h; obtain ⟨rfl, rfl⟩ := h
    obtain ⟨ad, c, rfl, hc, he, hl⟩ := hx
    rcases hl with rfl | ⟨b, o, rfl, hcells⟩
    · exact .inr ⟨ad, c, [], rfl, trivial, by simp, .inl rfl⟩
    · obtain ⟨us, h1, h2⟩ := (RepCells.flat he hcells).values'
      exact .inr ⟨_, c, us, rfl, h1, fun u hu => by
        obtain ⟨j, hj⟩ := List.mem_iff_getElem?.1 hu
        exact hr.fin.mem.one _ _ _ (h2 j u hj), .inr ⟨b, o, rfl, fun j u hu => hr.fin.mem.agree _ _ _ (h2 j u hu)⟩⟩
  · rename_i b
    simp only [Option.some.injEq, Prod.mk.injEq] at h; obtain ⟨rfl, rfl⟩ := h
    simp only [Rep] at hx
    exact .inl ⟨b, rfl, hx, rfl, rfl⟩
  · simp only [Option.some.injEq, Prod.mk.injEq] at h; obtain ⟨rfl, rfl⟩ := h
    simp only [Rep] at hx
    exact .inr ⟨none, 0, [], hx, trivial, by simp, .inl rfl⟩
  · rename_i k
    split at h
    · rename_i sz α enc l E hb
      simp only [Option.some.injEq, Prod.mk.injEq] at h; obtain ⟨rfl, rfl⟩ := h
      obtain ⟨ad, n', c', ho, rfl⟩ := hx
      obtain ⟨ad', c, h1, h2, h3⟩ := hr.fin.mem.holds _ _ hb
      rw [ho] at h1; simp only [Option.some.injEq, Prod.mk.injEq] at h1
      obtain ⟨rfl, rfl, rfl⟩ := h1
      rcases h3 with ⟨rfl, rfl, rfl⟩ | ⟨g, vs, fz, k1, k2, k3, k4, k5, k6, k7, k8, k9⟩
      · exact .inr ⟨none, 0, [], rfl, trivial, by simp, .inl rfl⟩
      · refine .inr ⟨ad, c', _, rfl, k7, fun u hu => k8 u (List.mem_of_mem_take hu), .inr ⟨g, 0, k1, fun j u hu => ?_⟩⟩
        rw [List.getElem?_take] at hu
        split at hu
        · rw [Nat.zero_add]; exact cell_of_heap k2 hu
        · cases hu
    · cases h
  · cases h
theorem reps_bytes : ∀ {b : List UInt8} {us : List Value}, Reps (b.map AV.byte) G us → us = b.map fun c => Value.int .u8 c.toNat
  | [], [], _ => rfl
  | c :: b, u :: us, h => by
    have h1 : u = .int .u8 c.toNat := h.1
    rw [List.map_cons, ← reps_bytes h.2, h1]
  | [], _ :: _, h => h.elim
  | _ :: _, [], h => h.elim
theorem run_loadCells0 {ad : Addr} {us : List Value} (h : us = [] ∨ ∃ b o, some ad = some (⟨b, o, none⟩ : Addr) ∧ ∀ j u, us[j]? = some u → w.cell? ⟨b, o + j, none⟩ = some u) : (loadCells ad us.length).run P w = .ok us.toArray w := by
  rcases h with rfl | ⟨b, o, he, hc⟩
  · simp [loadCells, loadCellsFrom]
  · injection he with he; subst he
    have := run_loadCellsFrom (P := P) (w := w) b o us 0 #[] (fun j v hv => by rw [Nat.add_zero]; exact hc j v hv)
    simpa [loadCells] using this
theorem aStr_ok (hr : Rel w₀ G₀ hp₀ G s a w) {src dst : TypeId} {x : AV} {v : Value} {d : D} {ps : List Prop} {r : AV} (hd : P.underlying dst = some .string) (hx : Rep x G v) (h : aStr P s src x d = some (ps, r)) (hp : Alls ps) : ∃ z, (convert src dst v).run P w = .ok z w ∧ Rep r G z := by
  unfold aStr at h
  split at h
  · rename_i E flat n b hs hsrc
    split at h
    · cases h
    · rename_i he hne
      simp only [Option.some.injEq, Prod.mk.injEq] at h; obtain ⟨rfl, rfl⟩ := h
      simp only [Alls, and_true] at hp
      obtain ⟨rfl, rfl⟩ := hp
      rcases src_ok hr hx hsrc with ⟨b', rfl, _⟩ | ⟨ad, c, us, rfl, h1, h2, h3⟩
      · exact (hne b' rfl).elim
      · have hus := reps_bytes h1
        refine ⟨.string ⟨b.toArray⟩, ?_, rfl⟩
        rw [run_convert_bytes_string w src dst E ad _ c hs he hd]
        cases ad with
        | none =>
          have : b = [] := by
            rcases h3 with h3 | ⟨_, _, h3, _⟩
            · rw [hus] at h3; simpa using h3
            · cases h3
          subst this
          simp [Conv.bytesToString, ByteArray.empty, ByteArray.emptyWithCapacity]
          rfl
        | some ad =>
          have hl := run_loadCells0 (P := P) (w := w) (ad := ad) h3
          have hlen : us.length = b.length := by rw [hus]; simp
          rw [hlen, hus] at hl
          have := run_bytesToString (P := P) w ad b.length c (b.map fun c => (c.toNat : Int)) (by simpa [Function.comp_def] using hl)
          rw [this, foldl_push_bytes]
          congr 2
          simp [Function.comp_def]
    · cases h
  · cases h
theorem aval_ok (hr : Rel w₀ G₀ hp₀ G s a w) {o : Oper} {d : D} {ps : List Prop} {v : AV} (h : aval P s d o.op = some (ps, v)) (hp : Alls ps) : ValOk P G a w o v := by
  obtain ⟨dst, op, ty, pos, after, guard⟩ := o
  unfold ValOk
  have val : ∀ {x : Sem Value} {u : Value}, x.run P w = .ok u w → (do pure (.value (← x)) : Sem Next).run P w = .ok (.value u) w := fun hx => by simp [hx]
  simp only at h
  unfold aval at h
  split at h
  · split at h
    · rename_i x v' hx
      simp only [Option.some.injEq, Prod.mk.injEq] at h; obtain ⟨rfl, rfl⟩ := h
      exact ⟨_, by simp [execOp], ev_ok hr hx⟩
    · cases h
  · split at h
    · rename_i x v' hx
      simp only [Option.some.injEq, Prod.mk.injEq] at h; obtain ⟨rfl, rfl⟩ := h
      exact ⟨_, by simp [execOp], ev_ok hr hx⟩
    · cases h
  · split at h
    · rename_i c x y b t hc
      split at h
      · rename_i v' hx
        simp only [Option.some.injEq, Prod.mk.injEq] at h; obtain ⟨rfl, rfl⟩ := h
        simp only [Alls, and_true] at hp
        subst hp
        have hc' := ev_ok hr hc
        simp only [Rep] at hc'
        have hx' := ev_ok hr hx
        cases b
        · exact ⟨_, by simp [execOp, hc', asBool], hx'⟩
        · exact ⟨_, by simp [execOp, hc', asBool], hx'⟩
      · cases h
    · cases h
  · obtain ⟨z, hz, hr'⟩ := aBuild_ok hr h
    exact ⟨z, val hz, hr'⟩
  · obtain ⟨z, hz, hr'⟩ := aLoad_ok hr h hp
    exact ⟨z, val hz, hr'⟩
  · obtain ⟨z, hz, hr'⟩ := aSlice_ok hr h hp
    exact ⟨z, val hz, hr'⟩
  · split at h
    · rename_i a' b' hx hy
      obtain ⟨z, hz, hr'⟩ := abin_ok (w := w) (ev_ok hr hx) (ev_ok hr hy) h hp
      exact ⟨z, val (by simp only [Sem.run_bind, eqGuard_ok (w := w) (ev_ok hr hx) (ev_ok hr hy) h, Result.andThen_ok, hz]), hr'⟩
    · cases h
  · split at h
    · rename_i op t x a' hx
      split at h
      · rename_i v' hv
        simp only [Option.some.injEq, Prod.mk.injEq] at h; obtain ⟨rfl, rfl⟩ := h
        obtain ⟨z, hz, hr'⟩ := aun_ok (P := P) (w := w) (ev_ok hr hx) hv
        exact ⟨z, val hz, hr'⟩
      · cases h
    · cases h
  · split at h
    · rename_i v' hs hx
      split at h
      · rename_i r' hc
        simp only [Option.some.injEq] at h; subst h
        obtain ⟨z, hz, hr'⟩ := aConv_ok (w := w) (Option.ne_none_iff_exists'.2 ⟨_, hs⟩) (ev_ok hr hx) hc
        exact ⟨z, val hz, hr'⟩
      · split at h
        · rename_i hd
          obtain ⟨z, hz, hr'⟩ := aStr_ok hr hd (ev_ok hr hx) h hp
          exact ⟨z, val hz, hr'⟩
        · cases h
    · cases h
  · split at h
    · rename_i t x f v' hx
      obtain ⟨z, hz, hr'⟩ := aField_ok (w := w) (ev_ok hr hx) h
      exact ⟨z, val hz, hr'⟩
    · cases h
  · split at h
    · rename_i t x f v' hx
      obtain ⟨z, hz, hr'⟩ := aFieldAddr_ok (w := w) (ev_ok hr hx) h
      exact ⟨z, val hz, hr'⟩
    · cases h
  · split at h
    · rename_i i _ vs hx
      split at h
      · rename_i v' hv
        simp only [Option.some.injEq, Prod.mk.injEq] at h; obtain ⟨rfl, rfl⟩ := h
        obtain ⟨us, hus, hr'⟩ := ev_ok hr hx
        obtain ⟨u, hu, hru⟩ := reps_get hr' hv
        refine ⟨u, val ?_, hru⟩
        have : us[i]? = some u := by simpa using hu
        simp [hus, Instr.extract, this]
      · cases h
    · cases h
  · split at h
    · rename_i t x i v' j hx hj
      obtain ⟨z, hz, hr'⟩ := aIndex_ok (w := w) (ev_ok hr hx) (ev_ok hr hj) h hp
      exact ⟨z, val hz, hr'⟩
    · cases h
  · split at h
    · rename_i t x i v' j hx hj
      obtain ⟨z, hz, hr'⟩ := aIndexAddr_ok hr (ev_ok hr hx) (ev_ok hr hj) h hp
      exact ⟨z, val hz, hr'⟩
    · cases h
  · split at h
    · rename_i f first cap _ _ fs cs hf hc
      simp only [Option.some.injEq, Prod.mk.injEq] at h; obtain ⟨rfl, rfl⟩ := h
      refine ⟨.func f (first.map a.eval) (cap.map a.eval), val (by simp [Instr.makeFunc]), _, _, rfl, by simpa using evs_ok hr hf, by simpa using evs_ok hr hc⟩
    · cases h
  · split at h
    · rename_i args argTypes _ _ x t ha ht
      split at h
      · rename_i v' hx
        obtain ⟨z, hz, hr'⟩ := aLen_ok hr (ty := ty) (ev_ok hr hx) h
        refine ⟨z, ?_, hr'⟩
        have e1 : args = #[x] := by rw [← Array.toArray_toList (xs := args), ha]
        have e2 : argTypes = #[t] := by rw [← Array.toArray_toList (xs := argTypes), ht]
        subst e1 e2
        simp [execOp, resolve, invoke, builtin, hz]
      · cases h
    · cases h
  · split at h
    · rename_i args _ _ x y ha
      split at h
      · rename_i u v hx hy
        have e1 : args = #[x, y] := by rw [← Array.toArray_toList (xs := args), ha]
        subst e1
        unfold aMax at h
        split at h
        · rename_i k a' k' b'
          have hx' := ev_ok hr hx
          have hy' := ev_ok hr hy
          simp only [Rep] at hx' hy'
          cases hk : decide (k = k') <;> rw [hk] at h <;> simp only [cond_true, cond_false, reduceCtorEq, Option.some.injEq, Prod.mk.injEq] at h
          obtain ⟨rfl, rfl⟩ := h
          exact ⟨_, by simp [execOp, resolve, invoke, builtin, Builtin.max_, Builtin.max2, hx', hy'], rfl⟩
        · cases h
      · cases h
    · cases h
  · split at h
    · rename_i args _ _ x y ha
      split at h
      · rename_i u v hx hy
        have e1 : args = #[x, y] := by rw [← Array.toArray_toList (xs := args), ha]
        subst e1
        unfold aMin at h
        split at h
        · rename_i k a' k' b'
          have hx' := ev_ok hr hx
          have hy' := ev_ok hr hy
          simp only [Rep] at hx' hy'
          cases hk : decide (k = k') <;> rw [hk] at h <;> simp only [cond_true, cond_false, reduceCtorEq, Option.some.injEq, Prod.mk.injEq] at h
          obtain ⟨rfl, rfl⟩ := h
          exact ⟨_, by simp [execOp, resolve, invoke, builtin, Builtin.min_, Builtin.min2, hx', hy'], rfl⟩
        · cases h
      · cases h
    · cases h
  · cases h
end
end Go.Sym
