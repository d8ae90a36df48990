/- Rows: made, appended to, written to. -/
import Derived.Test.YtlfafgmhjplbeaaSymH
import Derived.Laws.Append
namespace Go.Sym
open Go.RowKit
def vsplice (cs : List Value) (off : Nat) : List Value → List Value
  | [] => cs
  | x :: xs => vsplice (cs.set off x) (off + 1) xs
theorem vsplice_length : ∀ (xs cs : List Value) (off : Nat), (vsplice cs off xs).length = cs.length
  | [], _, _ => rfl
  | x :: xs, cs, off => by rw [vsplice, vsplice_length]; simp
theorem vsplice_mem : ∀ (xs cs : List Value) (off : Nat) (v : Value), v ∈ vsplice cs off xs → v ∈ cs ∨ v ∈ xs
  | [], _, _, v, h => .inl h
  | x :: xs, cs, off, v, h => by
    rcases vsplice_mem xs _ _ v h with h | h
    · rcases List.mem_or_eq_of_mem_set h with h | h
      · exact .inl h
      · exact .inr (by simp [h])
    · exact .inr (by simp [h])
theorem reps_vsplice {G : Gh} : ∀ {xs cs : List AV} {us vs : List Value} (off : Nat), Reps cs G us → Reps xs G vs → Reps (splice cs off xs) G (vsplice us off vs)
  | [], _, _, [], _, h, _ => h
  | x :: xs, cs, us, v :: vs, off, h, hx => reps_vsplice (xs := xs) (vs := vs) (off + 1) (reps_set off h hx.1) hx.2
  | [], _, _, _ :: _, _, _, h => h.elim
  | _ :: _, _, _, [], _, _, h => h.elim

section
variable {P : Program} {w₀ : World} {G₀ : Gh} {hp₀ : List (Nat × Box)} {G : Gh} {s : St} {a : Act} {w : World}

theorem still_alloc (w : World) (o : Obj) : Still w (w.alloc o) :=
  ⟨rfl, rfl, rfl, by simp, fun k hk _ => Below.heap_alloc _ _ _ hk⟩
theorem heap_alloc_top (w : World) (o : Obj) : (w.alloc o).heap[w.heap.size]? = some o := by
  show (w.heap.push o)[w.heap.size]? = _
  simp

theorem run_storeCells' (g o : Nat) (T : TypeId) (fz : Nat × Nat) : ∀ (vs : List Value) (i : Nat) (cur : Array Value) (w : World), w.heap[g]? = some (.cells cur T fz) → o + i + vs.length ≤ cur.size → (fz = (0, 0) ∨ cur.size ≤ fz.1) → (∀ v ∈ vs, v.oneCell' = true) →
    ∃ w' cur', (storeCells ⟨g, o, none⟩ vs i).run P w = .ok () w' ∧ w'.heap[g]? = some (.cells cur' T fz) ∧ cur'.toList = vsplice cur.toList (o + i) vs ∧ Bel (fun b => b = g) w w'
  | [], i, cur, w, hg, _, _, _ => ⟨w, cur, by simp [storeCells], hg, rfl, rfl, rfl, rfl, Nat.le_refl _, fun _ _ _ => rfl⟩
  | v :: vs, i, cur, w, hg, hl, hz, ho => by
    simp only [List.length_cons] at hl
    have hc : w.cell? ⟨g, o + i, none⟩ = some cur[o + i] := by simp [World.cell?, hg]
    have hfz : w.frozen? ⟨g, o + i, none⟩ = false := by
      simp only [World.frozen?, hg]
      rcases hz with rfl | hz
      · simp
      · simp; omega
    have hv := ho v (by simp)
    have hst : (store (Addr.add ⟨g, o, none⟩ i) v).run P w = .ok () (w.setCell ⟨g, o + i, none⟩ v) := by
      rw [add_plain, run_store P w _ v _ hv]; simp [stored, hc, hfz]
    have hg' : (w.setCell ⟨g, o + i, none⟩ v).heap[g]? = some (.cells (cur.setIfInBounds (o + i) v) T fz) := by
      simp [World.setCell, Array.getElem?_modify, hg]
    obtain ⟨w', cur', h1, h2, h3, h4⟩ := run_storeCells' g o T fz vs (i + 1) (cur.setIfInBounds (o + i) v) (w.setCell ⟨g, o + i, none⟩ v) hg' (by simp; omega) (by simpa using hz) (fun u hu => ho u (by simp [hu]))
    refine ⟨w', cur', ?_, h2, ?_, ?_⟩
    · simp only [storeCells, Sem.run_bind, hst, Result.andThen_ok]; exact h1
    · rw [h3, vsplice]; simp [Nat.add_assoc]
    · refine ⟨h4.os, h4.tape, h4.output, by simpa using h4.size, fun k hk hne => ?_⟩
      rw [h4.block k (by simpa using hk) hne]
      exact Below.heap_setCell _ _ _ _ hne

theorem vsplice_take : ∀ (xs cs : List Value) (off : Nat), off + xs.length ≤ cs.length → (vsplice cs off xs).take (off + xs.length) = cs.take off ++ xs
  | [], cs, off, _ => by simp [vsplice]
  | x :: xs, cs, off, h => by
    simp only [List.length_cons] at h
    have := vsplice_take xs (cs.set off x) (off + 1) (by simp; omega)
    rw [vsplice, List.length_cons, show off + (xs.length + 1) = off + 1 + xs.length by omega, this]
    have h2 : (cs.set off x).take (off + 1) = cs.take off ++ [x] := by
      rw [List.take_succ_eq_append_getElem (by simp; omega)]
      simp [List.take_set_of_le]
    rw [h2]; simp
theorem vsplice_take_comm : ∀ (xs cs : List Value) (off n : Nat), n ≤ cs.length → (vsplice cs off xs).take n = vsplice (cs.take n) off xs
  | [], cs, off, n, _ => rfl
  | x :: xs, cs, off, n, h => by
    rw [vsplice, vsplice_take_comm xs _ (off + 1) n (by simpa using h), vsplice, List.take_set]
/-- append, run -/
theorem run_append' {t t2 ty E : TypeId} {i : TypeInfo} {z : Value} (ht : P.underlying t = some (.slice E)) (hi : P.info? E = some i) (hz : i.zero = some z) (hzs : z.cells.size = i.size) (hsz : 0 < i.size) (hby : i.bytes ≤ 32768) (hz1 : ∀ v ∈ z.cells.toList, v.oneCell' = true) (ht2 : notInt P t2 = true)
    {ad : Option Addr} {n c : Nat} {us : List Value} (hrow : RowAt w E i.size ad n c us)
    {x : Value} {m : Nat} {news : List Value} (hlen : ∀ w, (Builtin.lenOf x).run P w = .ok m w) (hcells : ∀ w', w'.heap = w.heap → (Builtin.firstCells i.size m x).run P w' = .ok news.toArray w') (hnl : news.length = m * i.size) (hn1 : ∀ v ∈ news, v.oneCell' = true)
    (hmax : n + m ≤ rowMax) :
    ∃ ad' c' w', (Builtin.append_ #[t, t2] ty #[.slice ad n c, x]).run P w = .ok (.slice ad' (n + m) c') w' ∧ RowAt w' E i.size ad' (n + m) c' (us ++ news) ∧ (blkOf ad' = blkOf ad ∨ ∃ g, blkOf ad' = some g ∧ w.heap.size ≤ g) ∧ Bel (fun b => blkOf ad = some b) w w' := by
  unfold rowMax at hmax
  obtain ⟨d2, hd2, hd2'⟩ : ∃ d2, P.underlying t2 = some d2 ∧ ∀ k, d2 ≠ .int k := by
    unfold notInt at ht2
    split at ht2
    · cases ht2
    · rename_i d h1 h2; exact ⟨d, h2, fun k e => h1 k e⟩
    · cases ht2
  have hzeros : (d2 matches .int _) = false := by
    cases d2 <;> first | rfl | exact absurd rfl (hd2' _)
  obtain ⟨hul, hrow⟩ := hrow
  have hlenall : (us ++ news).length = (n + m) * i.size := by rw [List.length_append, hul, hnl, Nat.add_mul]
  -- growing
  have grow : ∀ (old : List Value), old = us → n + m > c → (∀ w', w'.heap = w.heap → (Builtin.firstCells i.size n (.slice ad n c)).run P w' = .ok old.toArray w') →
      ∃ ad' c' w', (Builtin.append_ #[t, t2] ty #[.slice ad n c, x]).run P w = .ok (.slice ad' (n + m) c') w' ∧ RowAt w' E i.size ad' (n + m) c' (us ++ news) ∧ (blkOf ad' = blkOf ad ∨ ∃ g, blkOf ad' = some g ∧ w.heap.size ≤ g) ∧ Bel (fun b => blkOf ad = some b) w w' := by
    intro old hold hgt hfc
    rw [hold] at hfc
    clear hold
    have hcap : Builtin.nextslicecap (n + m) c ≤ 2 * (n + m) := by
      exact nextslicecap_le (by omega)
    have hb1 : ¬ Builtin.nextslicecap (n + m) c * i.bytes > 2 ^ 48 := by
      have : Builtin.nextslicecap (n + m) c * i.bytes ≤ 2 * (n + m) * 32768 := Nat.mul_le_mul hcap hby
      omega
    let nc := Question.cut (.appendCap (n + m) c E) (w.tape w.drawn (.appendCap (n + m) c E))
    have hnc1 : n + m ≤ nc := by simp [nc, Question.cut]
    have hnc2 : nc ≤ maxLen := by
      have := Nat.mod_lt (w.tape w.drawn (.appendCap (n + m) c E)) (show 0 < 2 ^ 63 - (n + m) by omega)
      simp only [nc, Question.cut, maxLen]; omega
    refine ⟨some ⟨w.heap.size, 0, none⟩, nc, w.drew.alloc (.cells (us.toArray ++ news.toArray ++ Builtin.zeroCells z.cells (nc - (n + m))) E), ?_, ?_, .inr ⟨w.heap.size, rfl, Nat.le_refl _⟩, ?_⟩
    · have hfc' := hfc w.drew rfl
      have hcc := hcells w.drew rfl
      have hi64 : ¬ (9223372036854775807 < (n : Int) + m) := by omega
      have hb2 : ¬ 281474976710656 < Builtin.nextslicecap (n + m) c * i.bytes := by omega
      have hforced : (Question.appendCap (n + m) c E).forced = false := rfl
      have hhp : w.drew.heap = w.heap := rfl
      simp only [Builtin.append_]
      simp [run_underlying' ht, run_underlying' hd2, Go.sizeOf, run_typeInfo' hi, hlen, show ¬ n + m ≤ c by omega, hzeros, zeroValue, hz, hi64, hb2, hforced, hfc', hcc, newRow, nc]
      simp [← Array.append_assoc]
    · refine ⟨hlenall, .inr ⟨w.heap.size, _, (0, 0), rfl, heap_alloc_top w.drew _, .inl rfl, hnc1, hnc2, ?_, ?_, ?_⟩⟩
      · simp only [Array.size_append, List.size_toArray, Builtin.zeroCells, Array.size_map, Array.size_range, hzs, hul, hnl, ← Nat.add_mul]
        congr 1; omega
      · simp only [Array.toList_append, List.append_assoc]
        rw [← List.append_assoc, ← hlenall]; exact List.take_left
      · intro v hv
        simp only [Array.toList_append, List.mem_append] at hv
        rcases hv with (hv | hv) | hv
        · rcases hrow with ⟨_, rfl, _⟩ | ⟨g, vs, fz, _, _, _, _, _, _, h7, h8⟩
          · have : us = [] := List.eq_nil_of_length_eq_zero (by simpa using hul)
            subst this; simp at hv
          · rw [← h7] at hv; exact h8 v (List.mem_of_mem_take (by simpa using hv))
        · exact hn1 v (by simpa using hv)
        · simp only [Builtin.zeroCells, Array.toList_map, List.mem_map, Array.toList_range, List.mem_range] at hv
          obtain ⟨k, hk, rfl⟩ := hv
          have : k % z.cells.size < z.cells.size := Nat.mod_lt _ (by omega)
          rw [getElem!_pos z.cells _ this]
          exact hz1 _ (by simp)
    · exact ⟨rfl, rfl, rfl, by simp, fun k hk _ => Below.heap_alloc w.drew _ k hk⟩
  rcases hrow with ⟨rfl, rfl, rfl⟩ | ⟨g, vs, fz, rfl, h2, h3, h4, h5, h6, h7, h8⟩
  · have hus : us = [] := List.eq_nil_of_length_eq_zero (by simpa using hul)
    by_cases hm : m = 0
    · subst hm
      have hnn : news = [] := List.eq_nil_of_length_eq_zero (by simpa using hnl)
      subst hnn hus
      refine ⟨none, 0, w, ?_, ⟨by simp, .inl ⟨rfl, rfl, rfl⟩⟩, .inl rfl, ⟨rfl, rfl, rfl, Nat.le_refl _, fun _ _ _ => rfl⟩⟩
      simp [Builtin.append_, run_underlying' ht, run_underlying' hd2, Go.sizeOf, run_typeInfo' hi, hlen, hzeros, hcells w rfl]
    · exact grow us rfl (by omega) (fun w' _ => by subst hus; simp [Builtin.firstCells])
  · by_cases hroom : n + m ≤ c
    · have hfit : n * i.size + news.length ≤ vs.size := by rw [hnl, h6, ← Nat.add_mul]; exact Nat.mul_le_mul_right _ hroom
      obtain ⟨w', cur', k1, k2, k3, k4⟩ := run_storeCells' (P := P) g (n * i.size) E fz news 0 vs w h2 (by omega) h3 hn1
      refine ⟨some ⟨g, 0, none⟩, c, w', ?_, ⟨hlenall, .inr ⟨g, cur', fz, rfl, k2, ?_, hroom, h5, ?_, ?_, ?_⟩⟩, .inl rfl, ⟨k4.os, k4.tape, k4.output, k4.size, fun k hk hne => k4.block k hk (fun e => hne (by subst e; rfl))⟩⟩
      · simp [Builtin.append_, run_underlying' ht, run_underlying' hd2, Go.sizeOf, run_typeInfo' hi, hlen, hzeros, hcells w rfl, hroom, add_plain, k1]
      · have hs : cur'.size = vs.size := by rw [← Array.length_toList, k3, vsplice_length, Array.length_toList]
        rw [hs]; exact h3
      · rw [← Array.length_toList, k3, vsplice_length, Array.length_toList, h6]
      · rw [k3, Nat.add_zero, Nat.add_mul, ← hnl, vsplice_take news vs.toList (n * i.size) (by rw [Array.length_toList]; exact hfit), h7]
      · intro v hv
        rw [k3] at hv
        rcases vsplice_mem _ _ _ _ hv with hv | hv
        · exact h8 v hv
        · exact hn1 v hv
    · refine grow us rfl (by omega) (fun w' hw' => ?_)
      have hc' : ∀ j u, us[j]? = some u → w'.cell? ⟨g, 0 + j, none⟩ = some u := fun j u hu => by
        rw [← h7, List.getElem?_take] at hu
        split at hu
        · rw [Nat.zero_add]; exact cell_of_heap (by rw [hw']; exact h2) hu
        · cases hu
      have := run_loadCells0 (P := P) (w := w') (ad := ⟨g, 0, none⟩) (us := us) (.inr ⟨g, 0, rfl, hc'⟩)
      rw [hul] at this
      simp [Builtin.firstCells, this]

/-- a row of known contents, under a name -/
theorem BoxOk.row {n : Nat} {sz : Nat} {α : Type} {enc : α → List AV} {l : List α} {E : TypeId} {ad : Option Addr} {c : Nat} {us : List Value} (ho : G.own n = some (ad, l.length, c)) (he : ∀ x ∈ l, (enc x).length = sz) (hrow : RowAt w E sz ad l.length c us)
    (hreps : Reps (l.flatMap enc) G.data us) (hi : ∀ b, blkOf ad = some b → ∀ o, G.imm b o = none) : BoxOk G w n (.row sz enc l E) := by
  refine ⟨ad, c, ho, he, ?_⟩
  obtain ⟨hul, h⟩ := hrow
  rcases h with ⟨rfl, h2, rfl⟩ | ⟨g, vs, fz, rfl, h2, h3, h4, h5, h6, h7, h8⟩
  · exact .inl ⟨rfl, List.eq_nil_of_length_eq_zero h2, rfl⟩
  · exact .inr ⟨g, vs, fz, rfl, h2, h3, h4, h5, h6, by rw [h7]; exact hreps, h8, hi g rfl⟩
theorem BoxOk.rowAt {n : Nat} {sz : Nat} {α : Type} {enc : α → List AV} {l : List α} {E : TypeId} (h : BoxOk G w n (.row sz enc l E)) :
    ∃ ad c us, G.own n = some (ad, l.length, c) ∧ (∀ x ∈ l, (enc x).length = sz) ∧ RowAt w E sz ad l.length c us ∧ Reps (l.flatMap enc) G.data us ∧ (∀ b, blkOf ad = some b → ∀ o, G.imm b o = none) := by
  obtain ⟨ad, c, h1, h2, h3⟩ := h
  rcases h3 with ⟨rfl, rfl, rfl⟩ | ⟨g, vs, fz, rfl, k2, k3, k4, k5, k6, k7, k8, k9⟩
  · exact ⟨none, 0, [], h1, h2, ⟨by simp, .inl ⟨rfl, rfl, rfl⟩⟩, trivial, fun b hb => by cases hb⟩
  · refine ⟨_, c, _, h1, h2, ⟨?_, .inr ⟨g, vs, fz, rfl, k2, k3, k4, k5, k6, rfl, k8⟩⟩, k7, fun b hb => by injection hb with hb; subst hb; exact k9⟩
    rw [← k7.length, flat_length h2]

/-- G with one own slice more -/
def Gh.addOwn (G : Gh) (k : Nat) (v : Option Addr × Nat × Nat) : Gh := { imm := G.imm, box := G.box, own := fun m => bif Nat.beq m k then some v else G.own m }
theorem Gh.addOwn_le {k : Nat} {v : Option Addr × Nat × Nat} (h : G.own k = none) : G.le (G.addOwn k v) :=
  ⟨fun _ _ _ h => h, fun _ _ h => h, fun n x hx => by
    show (bif Nat.beq n k then some v else G.own n) = _
    cases hb : Nat.beq n k
    · exact hx
    · have := Nat.eq_of_beq_eq_true hb; subst this; rw [h] at hx; cases hx⟩
theorem Gh.addOwn_self {k : Nat} {v : Option Addr × Nat × Nat} : (G.addOwn k v).own k = some v := by
  show (bif Nat.beq k k then some v else G.own k) = _; simp

theorem imm_lt (hr : Rel w₀ G₀ hp₀ G s a w) {b o : Nat} {v : Value} (h : G.imm b o = some v) : b < w.heap.size := World.block_lt_of_cell? _ _ (hr.fin.mem.agree _ _ _ h)

/-- a new row -/
theorem row_rel (hr : Rel w₀ G₀ hp₀ G s a w) {t : Tmp} {sz : Nat} {α : Type} {enc : α → List AV} {l : List α} {E : TypeId} {ad : Option Addr} {c : Nat} {us : List Value} {w' : World} {s' : St} (hn : noRange (s.nx + 16 * t) s.hp = true) (hst : Still w w')
    (he : ∀ x ∈ l, (enc x).length = sz) (hrow : RowAt w' E sz ad l.length c us) (hreps : Reps (l.flatMap enc) G.data us) (hnew : ∀ b, blkOf ad = some b → w.heap.size ≤ b)
    (hs : s.add (some t) (.own (s.nx + 16 * t)) [(s.nx + 16 * t, .row sz enc l E)] = some s') :
    ∃ G', Rel w₀ G₀ hp₀ G' s' (a.put (some t) (.slice ad l.length c)) w' := by
  let k := s.nx + 16 * t
  have hk : look s.hp k = none := noRange_look hn k (Nat.le_refl _) (by omega)
  obtain ⟨hkb, hko⟩ := hr.fresh k (by omega) hk
  have hle : G.le (G.addOwn k (ad, l.length, c)) := Gh.addOwn_le hko
  have hl1 : ∀ n bx, look [(k, Box.row sz enc l E)] n = some bx → n = k ∧ bx = .row sz enc l E := fun n bx h => by
    simp only [look] at h
    cases hb : Nat.beq k n
    · rw [hb] at h; cases h
    · rw [hb] at h; simp only [cond_true, Option.some.injEq] at h
      exact ⟨(Nat.eq_of_beq_eq_true hb).symm, h.symm⟩
  have himm : ∀ b, blkOf ad = some b → ∀ o, (G.addOwn k (ad, l.length, c)).imm b o = none := fun b hb o => by
    cases hq : G.imm b o with
    | none => exact hq
    | some v => have := imm_lt hr hq; have := hnew b hb; omega
  refine ⟨G.addOwn k (ad, l.length, c), hr.put hs hle ?_ ⟨ad, l.length, c, Gh.addOwn_self, rfl⟩ ?_⟩
  · intro m hm hl
    rw [look_append] at hl
    have hne : k ≠ m := fun e => by
      subst e
      have : Nat.beq (s.nx + 16 * t) k = true := by simp [k]
      simp only [look, this, cond_true, reduceCtorEq] at hl
    have hl2 : look s.hp m = none := by
      have : look [(k, Box.row sz enc l E)] m = none := by
        simp only [look]
        cases hb : Nat.beq k m
        · rfl
        · exact absurd (Nat.eq_of_beq_eq_true hb) hne
      rw [this] at hl; exact hl
    obtain ⟨h1, h2⟩ := hr.fresh m hm hl2
    refine ⟨h1, ?_⟩
    show (bif Nat.beq m k then some _ else G.own m) = _
    cases hb : Nat.beq m k
    · exact h2
    · exact absurd (Nat.eq_of_beq_eq_true hb).symm hne
  · refine hr.fin.extend hle hst (fun _ _ _ h => .inl h) (fun b o v h => ?_) hr.fin.mem.one ?_ ?_ ?_
    · have hlt := imm_lt hr h
      rw [World.cell?_of_block (w := w) (hst.block b hlt (fun h => h))]; exact hr.fin.mem.agree _ _ _ h
    · intro n bx h
      obtain ⟨rfl, _⟩ := hl1 n bx h; exact hk
    · intro n bx h
      obtain ⟨rfl, rfl⟩ := hl1 n bx h
      refine ⟨BoxOk.row Gh.addOwn_self he hrow (Reps.data_le (fun _ _ _ h => h) hreps) himm, fun b hb => ?_⟩
      simp only [Gh.at, Gh.addOwn_self] at hb
      cases ad with
      | none => cases hb
      | some x => exact hnew b hb
    · intro n m bx bx' b h1 h2 _ _
      obtain ⟨rfl, _⟩ := hl1 n bx h1
      obtain ⟨rfl, _⟩ := hl1 m bx' h2
      rfl

/-- one own slice turns into another: the old name is given up -/
theorem Fin.take {hp : List (Nat × Box)} (hf : Fin w₀ G₀ hp₀ G hp w) {k k' : Nat} {sz sz' : Nat} {α β : Type} {enc : α → List AV} {l : List α} {E E' : TypeId} {enc' : β → List AV} {l' : List β} {ad ad' : Option Addr} {c c' : Nat} {us' : List Value} {w' : World}
    (hk : look hp k = some (.row sz enc l E)) (ho : G.own k = some (ad, l.length, c)) (hk' : look hp k' = none) (hko : G.own k' = none) (hi : ∀ b, blkOf ad = some b → ∀ o, G.imm b o = none)
    (hbel : Bel (fun b => blkOf ad = some b) w w') (hblk : blkOf ad' = blkOf ad ∨ ∃ g, blkOf ad' = some g ∧ w.heap.size ≤ g)
    (he : ∀ x ∈ l', (enc' x).length = sz') (hrow : RowAt w' E' sz' ad' l'.length c' us') (hreps : Reps (l'.flatMap enc') G.data us') :
    Fin w₀ G₀ hp₀ (G.addOwn k' (ad', l'.length, c')) ((k', .row sz' enc' l' E') :: (k, .dead) :: hp) w' := by
  have hle : G.le (G.addOwn k' (ad', l'.length, c')) := Gh.addOwn_le hko
  have hlt : ∀ {b : Nat} {o : Obj}, w.heap[b]? = some o → b < w.heap.size := fun h => (Array.getElem?_eq_some_iff.1 h).1
  have hatk : G.at k (.row sz enc l E) = blkOf ad := by
    simp only [Gh.at, ho]; cases ad <;> rfl
  have hatk' : (G.addOwn k' (ad', l'.length, c')).at k' (.row sz' enc' l' E') = blkOf ad' := by
    simp only [Gh.at, Gh.addOwn_self]; cases ad' <;> rfl
  have hlk : ∀ m b, look ((k', Box.row sz' enc' l' E') :: (k, .dead) :: hp) m = some b → (m = k' ∧ b = .row sz' enc' l' E') ∨ b = .dead ∨ (m ≠ k ∧ m ≠ k' ∧ look hp m = some b) := fun m b h => by
    simp only [look] at h
    cases hb : Nat.beq k' m
    · rw [hb] at h; simp only [cond_false] at h
      cases hb2 : Nat.beq k m
      · rw [hb2] at h
        exact .inr (.inr ⟨fun e => by subst e; simp at hb2, fun e => by subst e; simp at hb, h⟩)
      · rw [hb2] at h; simp only [cond_true, Option.some.injEq] at h; exact .inr (.inl h.symm)
    · rw [hb] at h; simp only [cond_true, Option.some.injEq] at h; exact .inl ⟨(Nat.eq_of_beq_eq_true hb).symm, h.symm⟩
  have other : ∀ m b x, m ≠ k → look hp m = some b → G.at m b = some x → blkOf ad ≠ some x := fun m b x hm h1 h2 e => by
    rw [← hatk] at e
    exact hm (hf.mem.apart m k b _ x h1 hk h2 e)
  have hold : ∀ m b, m ≠ k → look hp m = some b → BoxOk (G.addOwn k' (ad', l'.length, c')) w' m b := fun m b hm h => by
    have hb := hf.mem.holds m b h
    have ho := other m b
    cases b with
    | cells cs T =>
      obtain ⟨B1, vs, h1, h2, h3, h4, h5⟩ := hb
      exact ⟨B1, vs, h1, by rw [hbel.block _ (hlt h2) (ho B1 hm h (by simp [Gh.at, h1]))]; exact h2, h3.le hle, h4, h5⟩
    | row sz enc l E =>
      obtain ⟨ad, c, h1, h2, h3⟩ := hb
      refine ⟨ad, c, hle.own _ _ h1, h2, ?_⟩
      rcases h3 with h3 | ⟨g, vs, fz, k1, k2, k3, k4, k5, k6, k7, k8⟩
      · exact .inl h3
      · exact .inr ⟨g, vs, fz, k1, by rw [hbel.block _ (hlt k2) (ho g hm h (by subst k1; simp [Gh.at, h1]))]; exact k2, k3, k4, k5, k6, Reps.data_le (fun _ _ _ h => h) k7, k8⟩
    | dead => trivial
  have himm' : ∀ b, blkOf ad' = some b → ∀ o, G.imm b o = none := fun b hb o => by
    rcases hblk with h | ⟨g, h1, h2⟩
    · rw [h] at hb; exact hi b hb o
    · rw [h1] at hb; injection hb with hb; subst hb
      cases hq : G.imm g o with
      | none => rfl
      | some v => have := World.block_lt_of_cell? _ _ (hf.mem.agree _ _ _ hq); simp at this; omega
  refine ⟨⟨?_, hf.mem.one, ?_, ?_⟩, ?_, hf.imm_le, hf.imm_new, ?_, hf.keep⟩
  · intro b o v h
    have hc := hf.mem.agree b o v h
    have hb := World.block_lt_of_cell? _ _ hc
    have hne : ¬ blkOf ad = some b := fun e => by have := hi b e o; rw [show G.imm b o = some v from h] at this; cases this
    rw [World.cell?_of_block (w := w) (hbel.block b hb hne)]; exact hc
  · intro m b h
    rcases hlk m b h with ⟨rfl, rfl⟩ | rfl | ⟨hm, _, h⟩
    · exact BoxOk.row Gh.addOwn_self he hrow (Reps.data_le (fun _ _ _ h => h) hreps) himm'
    · trivial
    · exact hold m b hm h
  · intro m m' b b' x h1 h2 h3 h4
    rcases hlk m b h1 with ⟨rfl, rfl⟩ | rfl | ⟨hm, hmk, i1⟩
    · rcases hlk m' b' h2 with ⟨rfl, rfl⟩ | rfl | ⟨hm', _, i2⟩
      · rfl
      · cases h4
      · rw [hatk'] at h3
        rw [(hf.mem.holds m' b' i2).at_le hle] at h4
        rcases hblk with h | ⟨g, h5, h6⟩
        · rw [h] at h3; exact absurd h3 (other m' b' x hm' i2 h4)
        · rw [h5] at h3; injection h3 with h3; subst h3
          have := (hf.mem.holds m' b' i2).at_some h4; omega
    · cases h3
    · rcases hlk m' b' h2 with ⟨rfl, rfl⟩ | rfl | ⟨hm', _, i2⟩
      · rw [hatk'] at h4
        rw [(hf.mem.holds m b i1).at_le hle] at h3
        rcases hblk with h | ⟨g, h5, h6⟩
        · rw [h] at h4; exact absurd h4 (other m b x hm i1 h3)
        · rw [h5] at h4; injection h4 with h4; subst h4
          have := (hf.mem.holds m b i1).at_some h3; omega
      · cases h4
      · rw [(hf.mem.holds m b i1).at_le hle] at h3
        rw [(hf.mem.holds m' b' i2).at_le hle] at h4
        exact hf.mem.apart m m' b b' x i1 i2 h3 h4
  · refine ⟨hbel.os.trans hf.bel.os, hbel.tape.trans hf.bel.tape, hbel.output.trans hf.bel.output, Nat.le_trans hf.bel.size hbel.size, fun j hj hS => ?_⟩
    have hne : ¬ blkOf ad = some j := fun e => by
      rw [← hatk] at e
      rcases hf.base k _ j hk e with h | h
      · omega
      · exact hS h
    rw [hbel.block j (Nat.lt_of_lt_of_le hj hf.bel.size) hne]; exact hf.bel.block j hj hS
  · intro m b x h1 h2
    rcases hlk m b h1 with ⟨rfl, rfl⟩ | rfl | ⟨hm, _, i1⟩
    · rw [hatk'] at h2
      rcases hblk with h | ⟨g, h5, h6⟩
      · rw [h, ← hatk] at h2; exact hf.base k _ x hk h2
      · rw [h5] at h2; injection h2 with h2; subst h2
        exact .inl (Nat.le_trans hf.bel.size h6)
    · cases h2
    · rw [(hf.mem.holds m b i1).at_le hle] at h2
      exact hf.base m b x i1 h2

/-- what is behind an append: cells and their number -/
theorem aAppend_src (hr : Rel w₀ G₀ hp₀ G s a w) {y : AV} {v : Value} (hy : Rep y G v) {flat : List AV} {m sz : Nat} (hs : srcOf s y = some (flat, m)) (hfl : flat.length = m * sz) :
    ∃ news, (∀ w, (Builtin.lenOf v).run P w = .ok m w) ∧ (∀ w', w'.heap = w.heap → (Builtin.firstCells sz m v).run P w' = .ok news.toArray w') ∧ Reps flat G.data news ∧ ∀ u ∈ news, u.oneCell' = true := by
  rcases src_ok hr hy hs with ⟨b, rfl, rfl, rfl, rfl⟩ | ⟨ad, c, us, rfl, h1, h2, h3⟩
  · refine ⟨b.map fun c => Value.int .u8 c.toNat, fun w => ?_, fun w' _ => ?_, ?_, fun u hu => ?_⟩
    · have hb : (⟨b.toArray⟩ : ByteArray).size = b.length := by simp [ByteArray.size]
      simp [Builtin.lenOf, hb]
    · have : ((⟨b.toArray⟩ : ByteArray).extract 0 b.length) = ⟨b.toArray⟩ := by
        apply ByteArray.ext; simp [ByteArray.data_extract]
      simp [Builtin.firstCells, this]
    · clear hs hfl hy
      induction b with
      | nil => trivial
      | cons c b ih => exact ⟨rfl, ih⟩
    · simp only [List.mem_map] at hu
      obtain ⟨c, _, rfl⟩ := hu; rfl
  · refine ⟨us, fun w => by simp [Builtin.lenOf], fun w' hw' => ?_, h1, h2⟩
    have hul : us.length = m * sz := by rw [← h1.length, hfl]
    cases ad with
    | none =>
      have : us = [] := by
        rcases h3 with h3 | ⟨_, _, h3, _⟩
        · exact h3
        · cases h3
      subst this
      simp [Builtin.firstCells]
    | some ad =>
      have h3' : us = [] ∨ ∃ b o, some ad = some (⟨b, o, none⟩ : Addr) ∧ ∀ j u, us[j]? = some u → w'.cell? ⟨b, o + j, none⟩ = some u := by
        rcases h3 with h3 | ⟨b, o, h4, h5⟩
        · exact .inl h3
        · refine .inr ⟨b, o, h4, fun j u hu => ?_⟩
          rw [World.cell?_of_block (w := w) (by rw [hw'])]; exact h5 j u hu
      have := run_loadCells0 (P := P) (w := w') (ad := ad) h3'
      rw [hul] at this
      simp [Builtin.firstCells, this]
theorem zeroFine_ok {E : TypeId} {sz : Nat} (h : zeroFine P E = true) (hs : tSize P E = some sz) : ∃ i z, P.info? E = some i ∧ i.zero = some z ∧ z.cells.size = i.size ∧ 0 < i.size ∧ i.bytes ≤ 32768 ∧ (∀ v ∈ z.cells.toList, v.oneCell' = true) ∧ i.size = sz := by
  unfold zeroFine at h
  unfold tSize at hs
  cases hi : P.info? E with
  | none => rw [hi] at h; cases h
  | some i =>
    rw [hi] at h hs
    simp only [Option.some.injEq] at hs
    cases hz : i.zero with
    | none => simp only [hz] at h; cases h
    | some z =>
      simp only [hz, Bool.and_eq_true, Nat.blt_eq, Nat.ble_eq, List.all_eq_true] at h
      obtain ⟨⟨⟨h1, h2⟩, h3⟩, h4⟩ := h
      exact ⟨i, z, rfl, hz, Nat.eq_of_beq_eq_true h1, h2, h3, h4, hs⟩

theorem reps_nameless {cs : List AV} {us : List Value} (h : AV.rens (fun _ => none) cs = cs) (hr : Reps cs G us) : Reps cs G.data us := by
  have := Reps.ren (ρ := fun _ => none) (G := G) (G' := G.data) (fun _ _ _ h => h) (fun _ _ _ e => by cases e) (fun _ _ _ e => by cases e) hr
  rwa [h] at this
/-- append, as the abstract machine has it -/
theorem aAppend_run (hr : Rel w₀ G₀ hp₀ G s a w) {d : D} {t t2 ty : TypeId} {old : List AV} {n : Nat} {y : AV} {v : Value} {ps : List Prop} {b : Box} (h : aAppend P s d t t2 old n y = some (ps, b)) (hp : Alls ps) (hy : Rep y G v)
    {sz0 : Nat} {E0 : TypeId} {ad : Option Addr} {c : Nat} {us : List Value} (hold : Reps old G.data us) :
    ∃ (sz : Nat) (α : Type) (enc : α → List AV) (l : List α) (E : TypeId), b = .row sz enc l E ∧ (∀ x ∈ l, (enc x).length = sz) ∧ n ≤ l.length ∧
      (RowAt w E sz ad n c us → ∃ ad' c' us' w', (Builtin.append_ #[t, t2] ty #[.slice ad n c, v]).run P w = .ok (.slice ad' l.length c') w' ∧ RowAt w' E sz ad' l.length c' us' ∧ Reps (l.flatMap enc) G.data us' ∧
        (blkOf ad' = blkOf ad ∨ ∃ g, blkOf ad' = some g ∧ w.heap.size ≤ g) ∧ Bel (fun b => blkOf ad = some b) w w') := by
  unfold aAppend at h
  split at h
  · rename_i E sz α enc l E' ht
    split at h
    · rename_i sz' flat m hsz hsrc
      cases hq : Nat.beq sz sz' && Nat.beq E E' && zeroFine P E && notInt P t2 <;> rw [hq] at h <;> simp only [cond_true, cond_false, reduceCtorEq, Option.some.injEq, Prod.mk.injEq] at h
      obtain ⟨rfl, rfl⟩ := h
      simp only [Bool.and_eq_true] at hq
      obtain ⟨⟨⟨q1, q2⟩, q3⟩, q4⟩ := hq
      have q1 := Nat.eq_of_beq_eq_true q1
      have q2 := Nat.eq_of_beq_eq_true q2
      subst q1 q2
      simp only [Alls, and_true] at hp
      obtain ⟨p1, p2, p3, p4⟩ := hp
      refine ⟨sz, α, enc, l, E, rfl, p3, by omega, fun hrow => ?_⟩
      obtain ⟨i, z, hi, hz, z1, z2, z3, z4, rfl⟩ := zeroFine_ok q3 hsz
      have hfl : flat.length = m * i.size := by
        have h1 := flat_length p3
        rw [p1, List.length_append, hold.length, hrow.1, p2, Nat.add_mul] at h1; omega
      obtain ⟨news, k1, k2, k3, k4⟩ := aAppend_src (P := P) hr hy hsrc hfl
      obtain ⟨ad', c', w', r1, r2, r3, r4⟩ := run_append' (ty := ty) ht hi hz z1 z2 z3 z4 q4 hrow k1 k2 (by rw [← k3.length, hfl]) k4 (by omega)
      rw [← p2] at r1 r2
      exact ⟨ad', c', us ++ news, w', r1, r2, by rw [p1]; exact reps_append hold k3, r3, r4⟩
    · cases h
  · cases h
theorem reps_undefs : ∀ {vs : List Value}, Reps (undefs vs.length) G vs
  | [] => trivial
  | _ :: vs => ⟨trivial, reps_undefs (vs := vs)⟩
theorem undefs_length : ∀ (n : Nat), (undefs n).length = n
  | 0 => rfl
  | n + 1 => by simp [undefs, undefs_length n]
theorem aBuildSlice_run (hr : Rel w₀ G₀ hp₀ G s a w) {d : D} {t : TypeId} {len : Nat} {parts : Array (Nat × Operand)} {ps : List Prop} {b : Box} (h : aBuildSlice P s d t len parts.toList = some (ps, b)) (hp : Alls ps) :
    ∃ (sz : Nat) (α : Type) (enc : α → List AV) (l : List α) (E : TypeId), b = .row sz enc l E ∧ (∀ x ∈ l, (enc x).length = sz) ∧
      ∃ us w', (Instr.buildSlice t len (parts.map fun (i, x) => (i, a.eval x))).run P w = .ok (.slice (some ⟨w.heap.size, 0, none⟩) l.length l.length) w' ∧ RowAt w' E sz (some ⟨w.heap.size, 0, none⟩) l.length l.length us ∧ Reps (l.flatMap enc) G.data us ∧ Still w w' := by
  unfold aBuildSlice at h
  split at h
  · rename_i E sz α enc l E' ht
    split at h
    · rename_i sz' pss hsz hps
      split at h
      · rename_i cs hf
        cases hq : Nat.beq sz sz' && Nat.beq E E' && zeroFine P E && Nat.ble (len * sz) 16777216 && AV.ones cs <;> rw [hq] at h <;> simp only [cond_true, cond_false, reduceCtorEq, Option.some.injEq, Prod.mk.injEq] at h
        obtain ⟨rfl, rfl⟩ := h
        simp only [Bool.and_eq_true, Nat.ble_eq] at hq
        obtain ⟨⟨⟨⟨q1, q2⟩, q3⟩, q4⟩, q5⟩ := hq
        have q1 := Nat.eq_of_beq_eq_true q1
        have q2 := Nat.eq_of_beq_eq_true q2
        subst q1 q2
        simp only [Alls, and_true] at hp
        obtain ⟨p1, p2, p3, p4⟩ := hp
        obtain ⟨i, z, hi, hz, z1, z2, z3, z4, rfl⟩ := zeroFine_ok q3 hsz
        refine ⟨i.size, α, enc, l, E, rfl, p3, ?_⟩
        have hpp := aparts_ok hr hps
        have hm : (parts.map fun (i, x) => (i, a.eval x)).toList = parts.toList.map fun p => (p.1, a.eval p.2) := by simp
        let zc : Array Value := if len * i.size = 0 then #[] else z.cells
        let st : Array Value := (Array.range (len * i.size)).map (zc[· % zc.size]!)
        have hst : st.size = len * i.size := by simp [st]
        obtain ⟨us', hu1, hu2⟩ := afill_ok hpp (us := st) (by have := reps_undefs (G := G) (vs := st.toList); rwa [Array.length_toList, hst] at this) hf
        have hsz' : us'.size = len * i.size := by
          have := hu2.length
          rw [← p1, flat_length p3, p2, Array.length_toList] at this; exact this.symm
        refine ⟨us'.toList, w.alloc (.cells us' E), ?_, ⟨?_, .inr ⟨w.heap.size, us', (0, 0), rfl, heap_alloc_top _ _, .inl rfl, Nat.le_refl _, ?_, ?_, ?_, ?_⟩⟩, by rw [p1]; exact reps_nameless p4 hu2, still_alloc _ _⟩
        · rw [← hm] at hu1
          have hcap : ¬ len * i.size > 2 ^ 24 := by omega
          rw [p2]
          by_cases h0 : len * i.size = 0
          · have hzc : zc = #[] := by simp [zc, h0]
            simp only [st, hzc] at hu1
            simp [Instr.buildSlice, run_underlying' ht, Go.sizeOf, run_typeInfo' hi, h0]
            simp [h0] at hu1
            rw [hu1]; simp [newRow]
          · have hzc : zc = z.cells := by simp [zc, h0]
            simp only [st, hzc] at hu1
            simp only [Instr.buildSlice, Sem.run_bind, run_underlying' ht, Result.andThen_ok, Go.sizeOf, run_typeInfo' hi, Sem.run_pure, hcap, if_false, h0, zeroValue, hz, hu1, newRow, run_newObj]
            rfl
        · rw [Array.length_toList, hsz', p2]
        · rw [p2]; simp only [maxLen]
          have : len ≤ len * i.size := Nat.le_mul_of_pos_right _ z2
          omega
        · rw [hsz', p2]
        · rw [p2, ← hsz', ← Array.length_toList, List.take_length]
        · exact reps_ones hu2 q5
      · cases h
    · cases h
  · cases h
theorem flat_encB : ∀ (b : List UInt8), b.flatMap encB = b.map AV.byte
  | [] => rfl
  | c :: b => by rw [List.flatMap_cons, flat_encB b]; rfl
theorem run_str_bytes {src dst E : TypeId} {sd : TypeDesc} (hs : P.underlying src = some sd) (hd : P.underlying dst = some (.slice E)) (he : P.underlying E = some (.int .u8)) (b : List UInt8) (hb : b.length ≤ rowMax) :
    ∃ c us w', (convert src dst (.string ⟨b.toArray⟩)).run P w = .ok (.slice (some ⟨w.heap.size, 0, none⟩) b.length c) w' ∧ RowAt w' E 1 (some ⟨w.heap.size, 0, none⟩) b.length c us ∧ Reps (b.flatMap encB) G us ∧ Still w w' := by
  unfold rowMax at hb
  have hsz : (⟨b.toArray⟩ : ByteArray).size = b.length := by simp [ByteArray.size]
  let nc := Question.cut (.appendCap b.length 0 E) (w.tape w.drawn (.appendCap b.length 0 E))
  have hnc1 : b.length ≤ nc := by simp [nc, Question.cut]
  have hnc2 : nc ≤ maxLen := by
    have := Nat.mod_lt (w.tape w.drawn (.appendCap b.length 0 E)) (show 0 < 2 ^ 63 - b.length by omega)
    simp only [nc, Question.cut, maxLen]; omega
  let cells : Array Value := (b.map fun c => Value.int .u8 c.toNat).toArray ++ Array.replicate (nc - b.length) (.int .u8 0)
  have hcs : cells.size = nc := by simp [cells]; omega
  let w1 := w.drew.alloc (.cells cells E)
  have hw1 : (w1.freeze ⟨w.heap.size, nc, none⟩ 1).heap[w.heap.size]? = some (.cells cells E (nc, nc + 1)) := by
    have : w1.heap[w.heap.size]? = some (.cells cells E) := heap_alloc_top w.drew _
    simp only [World.freeze, Nat.one_ne_zero, if_false, Array.getElem?_modify, this]
    simp
  refine ⟨nc, b.map fun c => Value.int .u8 c.toNat, w1.freeze ⟨w.heap.size, nc, none⟩ 1, ?_, ⟨by simp, .inr ⟨w.heap.size, cells, (nc, nc + 1), rfl, hw1, .inr (by rw [hcs]; exact Nat.le_refl _), hnc1, hnc2, by rw [hcs, Nat.mul_one], ?_, ?_⟩⟩, ?_, ?_⟩
  · have hshape : (w.drew.alloc (.cells cells E)).shape? w.heap.size = some (E, cells.size) := by
      simp only [World.shape?, show (w.drew.alloc (.cells cells E)).heap[w.heap.size]? = some (.cells cells E) from heap_alloc_top w.drew _]
    have hforced : (Question.appendCap b.length 0 E).forced = false := rfl
    have hcv : (convert src dst (.string ⟨b.toArray⟩)).run P w = (Conv.stringToBytes E ⟨b.toArray⟩).run P w := by
      cases sd <;> simp [convert, run_underlying' hs, run_underlying' hd, run_underlying' he]
    rw [hcv]
    simp only [Conv.stringToBytes, hsz, Sem.run_bind, run_choose, hforced, Bool.false_eq_true, if_false, Result.andThen_ok, newRow, run_newObj, Sem.run_pure, markStringish, run_shape]
    have hce : (Array.map (fun (b : UInt8) => Value.int IntKind.u8 b.toNat) b.toArray ++ Array.replicate (Question.cut (.appendCap b.length 0 E) (w.tape w.drawn (.appendCap b.length 0 E)) - b.length) (Value.int .u8 0)) = cells := by simp [cells, nc]
    simp only [hce]
    have hsh : ({ heap := w.heap.push (Obj.cells cells E), tape := w.tape, drawn := w.drawn + 1, os := w.os, output := w.output } : World).shape? w.heap.size = some (E, cells.size) := hshape
    simp only [hsh, hcs]
    rfl
  · simp [cells]
  · intro v hv
    simp only [cells, Array.toList_append, List.mem_append, List.mem_map, Array.toList_replicate, List.mem_replicate] at hv
    rcases hv with ⟨c, _, rfl⟩ | ⟨_, rfl⟩ <;> rfl
  · clear hb hsz hnc1 hnc2 hcs hw1
    clear w1 cells nc
    rw [flat_encB]
    induction b with
    | nil => trivial
    | cons c b ih => exact ⟨rfl, ih⟩
  · refine ⟨rfl, rfl, rfl, by simp [World.freeze, w1], fun k hk _ => ?_⟩
    simp only [World.freeze, Nat.one_ne_zero, if_false, Array.getElem?_modify]
    rw [if_neg (by omega)]
    exact Below.heap_alloc w.drew _ k hk
end
end Go.Sym
