/- A region that draws its order: every order comes to the same. -/
import Derived.Test.YtlfafgmhjplbeaaSymN
namespace Go.Sym
open Go.RowKit
section
variable {P : Program} {w₀ : World} {G₀ : Gh} {hp₀ : List (Nat × Box)} {s : St}

/-- what the head's reckoning shows of operation i -/
def HOk (P : Program) (ops : Array Oper) (ds : List (Nat × Dec)) (s : St) (Rs : List HR) (i : Nat) (o : Oper) : Prop :=
  ∃ r ps, Rs[i]? = some r ∧ o.dst = some r.dst ∧ r.dst < s.n ∧ noRange (s.nx + 16 * r.dst) s.hp = true ∧ predsOf (Rs.take i) o.after.toList = some r.pred ∧ freshDst r.dst (Rs.take i) = true ∧
    readsFine r.pred (readsOf ops o) (Rs.take i) 0 = true ∧ writesFine ops r.dst r.pred i = true ∧ astepH P ops (addSel r.pred (Rs.take i) 0 s) (decOf ds i) o = some (ps, r.v, r.new) ∧ Alls ps

theorem headGo_ok {ops : Array Oper} {ds : List (Nat × Dec)} : ∀ (l : List Oper) (i : Nat) (Rs Rs' : List HR) (acc acc' : List Prop), Rs.length = i → headGo P ops ds s l i Rs acc = some (Rs', acc') → Alls acc' →
    Alls acc ∧ (∃ ex, Rs' = Rs ++ ex ∧ ex.length = l.length) ∧ ∀ j o, l[j]? = some o → HOk P ops ds s Rs' (i + j) o
  | [], i, Rs, Rs', acc, acc', hi, h, hp => by
    simp only [headGo, Option.some.injEq, Prod.mk.injEq] at h; obtain ⟨rfl, rfl⟩ := h
    exact ⟨hp, ⟨[], by simp, rfl⟩, fun j o ho => by simp at ho⟩
  | o :: l, i, Rs, Rs', acc, acc', hi, h, hp => by
    simp only [headGo] at h
    split at h
    · rename_i d pred hd hpr
      cases hb : Nat.blt d s.n && freshDst d Rs && noRange (s.nx + 16 * d) s.hp && readsFine pred (readsOf ops o) Rs 0 && writesFine ops d pred i <;> rw [hb] at h <;> simp only [cond_true, cond_false, reduceCtorEq] at h
      simp only [Bool.and_eq_true, Nat.blt_eq] at hb
      obtain ⟨⟨⟨⟨b1, b2⟩, b3⟩, b4⟩, b5⟩ := hb
      split at h
      · rename_i ps v new hst
        obtain ⟨h1, ⟨ex, h2, h2'⟩, h3⟩ := headGo_ok l (i + 1) (Rs ++ [⟨d, v, new, pred⟩]) Rs' (ps ++ acc) acc' (by simp [hi]) h hp
        obtain ⟨h4, h5⟩ := Alls_append.1 h1
        refine ⟨h5, ⟨⟨d, v, new, pred⟩ :: ex, by rw [h2]; simp, by simp [h2']⟩, fun j o' ho' => ?_⟩
        cases j with
        | zero =>
          simp at ho'; subst ho'
          have ht : Rs'.take i = Rs := by rw [h2, ← hi]; simp
          refine ⟨⟨d, v, new, pred⟩, ps, by rw [h2, ← hi]; simp, hd, b1, b3, ?_, ?_, ?_, b5, ?_, h4⟩
          · simp only [Nat.add_zero]; rw [ht]; exact hpr
          · simp only [Nat.add_zero]; rw [ht]; exact b2
          · simp only [Nat.add_zero]; rw [ht]; exact b4
          · simp only [Nat.add_zero]; rw [ht]; exact hst
        | succ j =>
          have := h3 j o' (by simpa using ho')
          rw [show i + (j + 1) = i + 1 + j by omega]; exact this
      · cases h
    · cases h

theorem freshDst_iff {d : Nat} : ∀ {rs : List HR}, freshDst d rs = true ↔ ∀ r ∈ rs, r.dst ≠ d
  | [] => by simp [freshDst]
  | r :: rs => by
    simp only [freshDst, Bool.and_eq_true, Bool.not_eq_true', freshDst_iff (rs := rs), List.mem_cons, forall_eq_or_imp]
    constructor
    · rintro ⟨h1, h2⟩; exact ⟨fun e => by subst e; simp at h1, h2⟩
    · rintro ⟨h1, h2⟩
      refine ⟨?_, h2⟩
      cases hb : Nat.beq r.dst d
      · rfl
      · exact absurd (Nat.eq_of_beq_eq_true hb) h1
theorem predsOf_mem {Rs : List HR} : ∀ {es : List Edge} {l : List Nat}, predsOf Rs es = some l →
    (∀ e ∈ es, Region.binds .any e = true → e.on ∈ l) ∧ (∀ j ∈ l, ∃ e ∈ es, Region.binds .any e = true ∧ (j = e.on ∨ ∃ r, Rs[e.on]? = some r ∧ j ∈ r.pred))
  | [], l, h => by simp only [predsOf, Option.some.injEq] at h; subst h; exact ⟨fun e he => (by cases he), fun j hj => (by cases hj)⟩
  | e :: es, l, h => by
    simp only [predsOf] at h
    cases hb : Region.binds .any e <;> rw [hb] at h <;> simp only [cond_true, cond_false] at h
    · obtain ⟨h1, h2⟩ := predsOf_mem h
      refine ⟨fun e' he' hbe => ?_, fun j hj => ?_⟩
      · rcases List.mem_cons.1 he' with rfl | he'
        · rw [hb] at hbe; cases hbe
        · exact h1 e' he' hbe
      · obtain ⟨e', he', r⟩ := h2 j hj; exact ⟨e', List.mem_cons_of_mem _ he', r⟩
    · split at h
      · rename_i r l' hr hl'
        simp only [Option.some.injEq] at h; subst h
        obtain ⟨h1, h2⟩ := predsOf_mem hl'
        refine ⟨fun e' he' hbe => ?_, fun j hj => ?_⟩
        · rw [mem_unionN]
          rcases List.mem_cons.1 he' with rfl | he'
          · exact .inl List.mem_cons_self
          · exact .inr (h1 e' he' hbe)
        · rw [mem_unionN] at hj
          rcases hj with hj | hj
          · rcases List.mem_cons.1 hj with rfl | hj
            · exact ⟨e, List.mem_cons_self, hb, .inl rfl⟩
            · exact ⟨e, List.mem_cons_self, hb, .inr ⟨r, hr, hj⟩⟩
          · obtain ⟨e', he', r⟩ := h2 j hj; exact ⟨e', List.mem_cons_of_mem _ he', r⟩
      · cases h
theorem readsFine_iff {pred reads : List Nat} : ∀ {rs : List HR} {j : Nat}, readsFine pred reads rs j = true → ∀ k r, rs[k]? = some r → j + k ∈ pred ∨ r.dst ∉ reads
  | [], j, _, k, r, hr => by simp at hr
  | r0 :: rs, j, h, k, r, hr => by
    simp only [readsFine, Bool.and_eq_true, Bool.or_eq_true, Bool.not_eq_true'] at h
    cases k with
    | zero =>
      simp at hr; subst hr
      rcases h.1 with h | h
      · exact .inl (memN_iff.1 h)
      · exact .inr (fun hm => by rw [memN_iff.2 hm] at h; cases h)
    | succ k =>
      have := readsFine_iff h.2 k r (by simpa using hr)
      rwa [show j + (k + 1) = j + 1 + k by omega]
theorem writesFine_iff {ops : Array Oper} {d : Nat} {pred : List Nat} : ∀ {i : Nat}, writesFine ops d pred i = true → ∀ j o, j < i → ops[j]? = some o → j ∈ pred ∨ d ∉ readsOf ops o
  | 0, _, j, o, hj, _ => by omega
  | i + 1, h, j, o, hj, ho => by
    simp only [writesFine, Bool.and_eq_true, Bool.or_eq_true] at h
    by_cases hij : j = i
    · subst hij
      rcases h.1 with h | h
      · exact .inl (memN_iff.1 h)
      · rw [ho] at h; simp only [Bool.not_eq_true'] at h
        exact .inr (fun hm => by rw [memN_iff.2 hm] at h; cases h)
    · exact writesFine_iff h.2 j o (by omega) ho
theorem waitsAll_iff {o : Oper} : ∀ {i : Nat}, waitsAll o i = true → ∀ j, j < i → ∃ e ∈ o.after, e.on = j ∧ Region.binds .any e = true
  | 0, _, j, hj => by omega
  | i + 1, h, j, hj => by
    simp only [waitsAll, Bool.and_eq_true] at h
    by_cases hij : j = i
    · subst hij
      obtain ⟨e, he, hb⟩ := List.any_eq_true.1 h.1
      simp only [Bool.and_eq_true] at hb
      exact ⟨e, by simpa using he, Nat.eq_of_beq_eq_true hb.1, hb.2⟩
    · exact waitsAll_iff h.2 j (by omega)
theorem tailFine_iff : ∀ {l : List Oper} {i : Nat}, tailFine l i = true → ∀ j o, l[j]? = some o → waitsAll o (i + j) = true
  | [], i, _, j, o, ho => by simp at ho
  | o0 :: l, i, h, j, o, ho => by
    simp only [tailFine, Bool.and_eq_true] at h
    cases j with
    | zero => simp at ho; subst ho; exact h.1
    | succ j => have := tailFine_iff h.2 j o (by simpa using ho); rwa [show i + (j + 1) = i + 1 + j by omega]
theorem edgesFine_iff : ∀ {l : List Oper} {i : Nat}, edgesFine l i = true → ∀ j o, l[j]? = some o → ∀ e ∈ o.after, Region.binds .any e = true → e.on < i + j
  | [], i, _, j, o, ho => by simp at ho
  | o0 :: l, i, h, j, o, ho => by
    simp only [edgesFine, Bool.and_eq_true] at h
    cases j with
    | zero =>
      simp at ho; subst ho
      intro e he hb
      have := List.all_eq_true.1 h.1 e (by simpa using he)
      simp only [hb, Bool.not_true, Bool.false_or, Nat.blt_eq] at this
      exact this
    | succ j => have := edgesFine_iff h.2 j o (by simpa using ho); rwa [show i + (j + 1) = i + 1 + j by omega]

theorem mem_ready' {ops : Array Oper} {listed : Array Bool} {i : Nat} : i ∈ Region.ready .any ops listed ↔ i < ops.size ∧ listed.getD i true = false ∧ ∃ o, ops[i]? = some o ∧ ∀ e ∈ o.after, Region.binds .any e = true → listed.getD e.on false = true := by
  unfold Region.ready
  simp only [List.mem_filter, List.mem_range, Bool.and_eq_true, Bool.not_eq_true']
  constructor
  · rintro ⟨h1, h2, h3⟩
    obtain ⟨o, ho⟩ : ∃ o, ops[i]? = some o := ⟨ops[i], by simp [h1]⟩
    refine ⟨h1, h2, o, ho, fun e he hb => ?_⟩
    rw [ho] at h3
    simp only [Option.map_some, Option.getD_some] at h3
    have := Array.all_eq_true'.1 h3 e he
    simpa [hb] using this
  · rintro ⟨h1, h2, o, ho, h3⟩
    refine ⟨h1, h2, ?_⟩
    rw [ho]
    simp only [Option.map_some, Option.getD_some]
    refine Array.all_eq_true'.2 (fun e he => ?_)
    cases hb : Region.binds .any e
    · simp
    · simp [h3 e he hb]

theorem nodup_le : ∀ (n : Nat) (L : List Nat), L.Nodup → (∀ i ∈ L, i < n) → L.length ≤ n
  | 0, L, _, h => by
    cases L with
    | nil => simp
    | cons x L => have := h x List.mem_cons_self; omega
  | n + 1, L, hd, h => by
    by_cases hm : n ∈ L
    · have := nodup_le n (L.erase n) (hd.erase n) (fun i hi => by
        have h1 := h i (List.mem_of_mem_erase hi)
        have h2 : i ≠ n := fun e => by subst e; exact (hd.not_mem_erase) hi
        omega)
      rw [List.length_erase_of_mem hm] at this
      omega
    · have := nodup_le n L hd (fun i hi => by
        have h1 := h i hi
        have h2 : i ≠ n := fun e => hm (e ▸ hi)
        omega)
      omega
theorem le_nodup : ∀ (n : Nat) (L : List Nat), (∀ i, i < n → i ∈ L) → n ≤ L.length
  | 0, L, _ => Nat.zero_le _
  | n + 1, L, h => by
    have hm : n ∈ L := h n (by omega)
    have := le_nodup n (L.erase n) (fun i hi => (List.mem_erase_of_ne (by omega)).2 (h i (by omega)))
    rw [List.length_erase_of_mem hm] at this
    have : 0 < L.length := List.length_pos_of_mem hm
    omega

theorem tail_ok {ops : Array Oper} {ds : List (Nat × Dec)} {Q : Exit → Act → World → Prop} (he : edgesFine ops.toList 0 = true) {n : Nat} (ht : tailFine (ops.toList.drop n) n = true) :
    ∀ (l : List Oper) (m : Nat) (s : St) (acc acc' : List Prop) (s' : St), n ≤ m → l = ops.toList.drop m → m ≤ ops.size → aops P ops ds l m s acc = some (acc', s') → Alls acc' →
    Alls acc ∧ ∀ (G : Gh) (a : Act) (w : World) (listed : Array Bool), Rel w₀ G₀ hp₀ G s a w → listed.size = ops.size → (∀ j, j < ops.size → (listed.getD j true = true ↔ j < m)) → (∀ G' a' w', Rel w₀ G₀ hp₀ G' s' a' w' → Q .normal a' w') →
      wpAny P .any ops Q (ops.size - m) listed a w
  | [], m, s, acc, acc', s', hn, hl, hm, h, hp => by
    simp only [aops, Option.some.injEq, Prod.mk.injEq] at h; obtain ⟨rfl, rfl⟩ := h
    have hm' : m = ops.size := by
      have := congrArg List.length hl; simp at this; omega
    subst hm'
    refine ⟨hp, fun G a w listed hr hsz hli hN => ?_⟩
    rw [Nat.sub_self]
    refine ⟨?_, hN _ _ _ hr⟩
    cases hq : Region.ready .any ops listed with
    | nil => rfl
    | cons i r =>
      have hi : i ∈ Region.ready .any ops listed := by rw [hq]; exact List.mem_cons_self
      obtain ⟨h1, h2, _⟩ := mem_ready'.1 hi
      rw [(hli i h1).2 h1] at h2; cases h2
  | o :: l, m, s, acc, acc', s', hn, hl, hm, h, hp => by
    have hms : m < ops.size := by
      have := congrArg List.length hl; simp at this; omega
    have ho : ops[m]? = some o := by
      have : (ops.toList.drop m)[0]? = some o := by rw [← hl]; rfl
      simpa using this
    simp only [aops] at h
    split at h
    · rename_i ps s1 hs
      obtain ⟨h1, h2⟩ := tail_ok he ht l (m + 1) s1 (ps ++ acc) acc' s' (by omega) (by rw [← List.tail_drop, ← hl]; rfl) hms h hp
      obtain ⟨h3, h4⟩ := Alls_append.1 h1
      refine ⟨h4, fun G a w listed hr hsz hli hN => ?_⟩
      obtain ⟨k, hk⟩ : ∃ k, ops.size - m = k + 1 := ⟨ops.size - m - 1, by omega⟩
      rw [hk]
      have hmr : m ∈ Region.ready .any ops listed := by
        refine mem_ready'.2 ⟨hms, ?_, o, ho, fun e hee hb => ?_⟩
        · cases hq : listed.getD m true
          · rfl
          · have := (hli m hms).1 hq; omega
        · have := edgesFine_iff he m o (by simpa using ho) e hee hb
          have hlt : e.on < m := by omega
          have h5 := (hli e.on (by omega)).2 hlt
          rw [Array.getD_eq_getD_getElem?] at h5 ⊢
          have : listed[e.on]? = some listed[e.on] := by simp [show e.on < listed.size by omega]
          rw [this] at h5 ⊢; exact h5
      refine ⟨fun hnil => (by rw [hnil] at hmr; cases hmr), fun i hi => ?_⟩
      have him : i = m := by
        obtain ⟨i1, i2, oi, i3, i4⟩ := mem_ready'.1 hi
        rcases Nat.lt_trichotomy i m with hlt | heq | hgt
        · rw [(hli i i1).2 hlt] at i2; cases i2
        · exact heq
        · have hw := tailFine_iff ht (i - n) oi (by simp; rw [show n + (i - n) = i by omega]; exact i3)
          rw [show n + (i - n) = i by omega] at hw
          obtain ⟨e, he1, he2, he3⟩ := waitsAll_iff hw m hgt
          have := i4 e he1 he3
          rw [he2] at this
          have hf : listed.getD m true = false := by
            cases hq : listed.getD m true
            · rfl
            · have := (hli m hms).1 hq; omega
          rw [Array.getD_eq_getD_getElem?] at this hf
          have h6 : listed[m]? = some listed[m] := by simp [show m < listed.size by omega]
          rw [h6] at this hf
          simp only [Option.getD_some] at this hf
          rw [this] at hf; cases hf
      subst him
      refine astep_ok hr ho hs h3 (fun G' a' w' hr' => ?_)
      have := h2 G' a' w' (listed.setIfInBounds i true) hr' (by simp [hsz]) (fun j hj => ?_) hN
      · rwa [show ops.size - (i + 1) = k by omega] at this
      · rw [Array.getD_eq_getD_getElem?, Array.getElem?_setIfInBounds]
        by_cases hij : i = j
        · subst hij; simp [show i < listed.size by omega]
        · rw [if_neg hij]
          have := hli j hj
          rw [Array.getD_eq_getD_getElem?] at this
          rw [this]; omega
    · cases h

structure Inv (ops : Array Oper) (n : Nat) (L : List Nat) (listed : Array Bool) : Prop where
  nodup : L.Nodup
  lt : ∀ i ∈ L, i < n
  size : listed.size = ops.size
  iff : ∀ j, j < ops.size → (listed.getD j true = true ↔ j ∈ L)
  closed : ∀ i ∈ L, ∀ o, ops[i]? = some o → ∀ e ∈ o.after, Region.binds .any e = true → e.on ∈ L
theorem Inv.getD_false {ops : Array Oper} {n : Nat} {L : List Nat} {listed : Array Bool} (h : Inv ops n L listed) {j : Nat} (hj : j < ops.size) : listed.getD j false = true ↔ j ∈ L := by
  rw [← h.iff j hj, Array.getD_eq_getD_getElem?, Array.getD_eq_getD_getElem?]
  have hj' : j < listed.size := by rw [h.size]; exact hj
  have : listed[j]? = some listed[j] := by simp [hj']
  rw [this]; simp

theorem addL_all {Rs : List HR} (hh : Head s Rs) {n : Nat} (hlen : Rs.length = n) {L : List Nat} (hlt : ∀ i ∈ L, i < n) (hall : ∀ i, i < n → i ∈ L) : (addL Rs L s).eqv (addAll Rs s) := by
  have he := addAll_eq (Rs := Rs) Rs 0 s (fun k _ => by rw [Nat.zero_add])
  rw [he]
  have hmem : ∀ j, j ∈ (List.range' 0 Rs.length).reverse ↔ j ∈ L := fun j => by
    rw [List.mem_reverse, List.mem_range'_1, hlen]
    exact ⟨fun h => hall j (by omega), fun h => ⟨by omega, by have := hlt j h; omega⟩⟩
  refine ⟨by rw [(addL_n Rs _ s).1, (addL_n Rs _ s).1], by rw [(addL_n Rs _ s).2, (addL_n Rs _ s).2], fun d => ?_, fun m => ?_⟩
  · by_cases hw : ∃ j, j ∈ L ∧ ∃ rj : HR, Rs[j]? = some rj ∧ rj.dst = d
    · obtain ⟨j, hj, rj, hrj, rfl⟩ := hw
      rw [addL_fr_in hh hj hrj, addL_fr_in hh ((hmem j).2 hj) hrj]
    · rw [addL_fr_out (fun j hj rj hrj e => hw ⟨j, hj, rj, hrj, e⟩), addL_fr_out (fun j hj rj hrj e => hw ⟨j, (hmem j).1 hj, rj, hrj, e⟩)]
  · cases hq : look (addL Rs L s).hp m with
    | some b => exact (addL_hp_mono hh (fun j hj => (hmem j).2 hj) hq).symm
    | none =>
      cases hq' : look (addL Rs (List.range' 0 Rs.length).reverse s).hp m with
      | none => rfl
      | some b => rw [addL_hp_mono hh (fun j hj => (hmem j).1 hj) hq'] at hq; cases hq
/-- all predecessors of a ready operation have run -/
theorem preds_in {ops : Array Oper} {ds : List (Nat × Dec)} {n : Nat} {Rs : List HR} (hn : n ≤ ops.size) (hed : edgesFine ops.toList 0 = true) (hH : ∀ i o, i < n → ops[i]? = some o → HOk P ops ds s Rs i o) {L : List Nat}
    (hcl : ∀ i ∈ L, ∀ o, ops[i]? = some o → ∀ e ∈ o.after, Region.binds .any e = true → e.on ∈ L) : ∀ (i : Nat) (o : Oper) (r : HR), i < n → ops[i]? = some o → Rs[i]? = some r → (∀ e ∈ o.after, Region.binds .any e = true → e.on ∈ L) → (∀ j ∈ r.pred, j ∈ L ∧ j < i) := by
  intro i
  induction i using Nat.strongRecOn with
  | ind i ih =>
    intro o r hi ho hr hall j hj
    obtain ⟨r', ps, h1, _, _, _, h5, _⟩ := hH i o hi ho
    rw [hr] at h1; injection h1 with h1; subst h1
    obtain ⟨e, he, hb, hje⟩ := (predsOf_mem h5).2 j hj
    have hlt := edgesFine_iff hed i o (by simpa using ho) e (by simpa using he) hb
    have hlt' : e.on < i := by omega
    have heL := hall e (by simpa using he) hb
    rcases hje with rfl | ⟨re, hre, hje⟩
    · exact ⟨heL, hlt'⟩
    · have hre' : Rs[e.on]? = some re := by rw [List.getElem?_take] at hre; rw [if_pos hlt'] at hre; exact hre
      have hoe : ops[e.on]? = some ops[e.on] := by simp
      have := ih e.on hlt' ops[e.on] re (by omega) hoe hre' (hcl e.on heL _ hoe) j hje
      exact ⟨this.1, by omega⟩

theorem head_ok {ops : Array Oper} {ds : List (Nat × Dec)} {n : Nat} {Rs : List HR} {Q : Exit → Act → World → Prop} (hn : n ≤ ops.size) (hed : edgesFine ops.toList 0 = true) (ht : tailFine (ops.toList.drop n) n = true) (hlen : Rs.length = n)
    (hH : ∀ i o, i < n → ops[i]? = some o → HOk P ops ds s Rs i o) (hh : Head s Rs)
    (htail : ∀ (G : Gh) (a : Act) (w : World) (listed : Array Bool), Rel w₀ G₀ hp₀ G (addAll Rs s) a w → listed.size = ops.size → (∀ j, j < ops.size → (listed.getD j true = true ↔ j < n)) → wpAny P .any ops Q (ops.size - n) listed a w) :
    ∀ (g : Nat) (L : List Nat) (listed : Array Bool) (G : Gh) (a : Act) (w : World), ops.size = g + L.length → Inv ops n L listed → Rel w₀ G₀ hp₀ G (addL Rs L s) a w → wpAny P .any ops Q g listed a w := by
  intro g
  induction g with
  | zero =>
    intro L listed G a w hg hinv hr
    have h1 := nodup_le n L hinv.nodup hinv.lt
    have hnn : n = ops.size := by omega
    have hall : ∀ i, i < n → i ∈ L := fun i hi => by
      by_cases hm : i ∈ L
      · exact hm
      · have := nodup_le n (i :: L) (List.nodup_cons.2 ⟨hm, hinv.nodup⟩) (fun j hj => by rcases List.mem_cons.1 hj with rfl | hj; · exact hi
                                                                                         · exact hinv.lt j hj)
        simp at this; omega
    have := htail G a w listed (hr.eqv (addL_all hh hlen hinv.lt hall)) hinv.size (fun j hj => by rw [hinv.iff j hj]; exact ⟨fun h => hinv.lt j h, fun h => hall j h⟩)
    rwa [hnn, Nat.sub_self] at this
  | succ g ih =>
    intro L listed G a w hg hinv hr
    by_cases hall : ∀ i, i < n → i ∈ L
    · have h1 := nodup_le n L hinv.nodup hinv.lt
      have h2 := le_nodup n L hall
      have := htail G a w listed (hr.eqv (addL_all hh hlen hinv.lt hall)) hinv.size (fun j hj => by rw [hinv.iff j hj]; exact ⟨fun h => hinv.lt j h, fun h => hall j h⟩)
      rwa [show ops.size - n = g + 1 by omega] at this
    · -- some operation of the head has not run
      have hex : ∃ i, i < n ∧ i ∉ L ∧ ∀ j, j < i → j ∈ L := by
        have : ∃ i, i < n ∧ i ∉ L := by
          simpa using hall
        obtain ⟨i, hi, hm⟩ := this
        clear hall
        induction i using Nat.strongRecOn with
        | ind i ih =>
          by_cases hsm : ∀ j, j < i → j ∈ L
          · exact ⟨i, hi, hm, hsm⟩
          · have : ∃ j, j < i ∧ j ∉ L := by simpa using hsm
            obtain ⟨j, hj, hjm⟩ := this
            exact ih j hj (by omega) hjm
      obtain ⟨i0, hi0, hm0, hsm0⟩ := hex
      have hi0s : i0 < ops.size := by omega
      have h0r : i0 ∈ Region.ready .any ops listed := by
        refine mem_ready'.2 ⟨hi0s, ?_, ops[i0], by simp, fun e he hb => ?_⟩
        · cases hq : listed.getD i0 true
          · rfl
          · exact absurd ((hinv.iff i0 hi0s).1 hq) hm0
        · have := edgesFine_iff hed i0 ops[i0] (by simp) e he hb
          have hlt : e.on < i0 := by omega
          exact (hinv.getD_false (by omega)).2 (hsm0 _ hlt)
      refine ⟨fun hnil => (by rw [hnil] at h0r; cases h0r), fun i hi => ?_⟩
      obtain ⟨i1, i2, o, i3, i4⟩ := mem_ready'.1 hi
      have hiL : i ∉ L := fun h => by rw [(hinv.iff i i1).2 h] at i2; cases i2
      have hin : i < n := by
        rcases Nat.lt_or_ge i n with h | h
        · exact h
        · have hw := tailFine_iff ht (i - n) o (by simp; rw [show n + (i - n) = i by omega]; exact i3)
          rw [show n + (i - n) = i by omega] at hw
          obtain ⟨e, he1, he2, he3⟩ := waitsAll_iff hw i0 (by omega)
          have := i4 e he1 he3
          rw [he2, hinv.getD_false hi0s] at this
          exact absurd this hm0
      have hedge : ∀ e ∈ o.after, Region.binds .any e = true → e.on ∈ L := fun e he hb => by
        have hlt := edgesFine_iff hed i o (by simpa using i3) e he hb
        exact (hinv.getD_false (by omega)).1 (i4 e he hb)
      obtain ⟨r, ps, h1, h2, h3, h4, h5, h6, h7, h8, h9, h10⟩ := hH i o hin i3
      have hpred := preds_in hn hed hH hinv.closed i o r hin i3 h1 hedge
      have hlen' : ∀ k, k < (Rs.take i).length → Rs[0 + k]? = (Rs.take i)[k]? := fun k hk => by
        rw [List.getElem?_take, if_pos (by simp at hk; omega), Nat.zero_add]
      have htk : (Rs.take i).length = i := by simp; omega
      rw [addSel_eq (Rs := Rs) (Rs.take i) 0 s hlen', htk] at h9
      -- which slots and boxes the operation sees
      have hsel : ∀ j, j ∈ ((List.range' 0 i).filter (memN r.pred)).reverse ↔ j ∈ r.pred := fun j => by
        rw [List.mem_reverse, List.mem_filter, memN_iff]
        constructor
        · exact fun h => h.2
        · intro h
          refine ⟨?_, h⟩
          rw [List.mem_range'_1]; exact ⟨by omega, by have := (hpred j h).2; omega⟩
      have hreads : ∀ d ∈ readsOf ops o, look (addL Rs ((List.range' 0 i).filter (memN r.pred)).reverse s).fr d = look (addL Rs L s).fr d := fun d hd => by
        by_cases hw : ∃ j rj, Rs[j]? = some rj ∧ rj.dst = d ∧ (j ∈ r.pred ∨ j ∈ L)
        · obtain ⟨j, rj, hj, rfl, hjj⟩ := hw
          have hjp : j ∈ r.pred := by
            rcases hjj with h | h
            · exact h
            · -- it has run and is not among the predecessors: then it would have waited
              have hjn := hinv.lt j h
              have hji : j ≠ i := fun e => hiL (e ▸ h)
              rcases Nat.lt_or_gt_of_ne hji with hlt | hgt
              · rcases readsFine_iff h7 j rj (by rw [List.getElem?_take, if_pos hlt]; exact hj) with h' | h'
                · simpa using h'
                · exact absurd hd h'
              · have hoj : ops[j]? = some ops[j] := by simp
                obtain ⟨rj', psj, k1, k2, _, _, _, _, _, k8, _⟩ := hH j ops[j] hjn hoj
                rw [hj] at k1; injection k1 with k1; subst k1
                rcases writesFine_iff k8 i o hgt i3 with h' | h'
                · have := preds_in hn hed hH hinv.closed j ops[j] rj hjn hoj hj (hinv.closed j h _ hoj) i h'
                  exact absurd this.1 hiL
                · exact absurd hd h'
          rw [addL_fr_in hh ((hsel j).2 hjp) hj, addL_fr_in hh (hpred j hjp).1 hj]
        · rw [addL_fr_out (fun j hj rj hrj e => hw ⟨j, rj, hrj, e, .inl ((hsel j).1 hj)⟩), addL_fr_out (fun j hj rj hrj e => hw ⟨j, rj, hrj, e, .inr hj⟩)]
      have hsees : Sees o (addL Rs ((List.range' 0 i).filter (memN r.pred)).reverse s) (addL Rs L s) := by
        refine ⟨by rw [(addL_n Rs _ s).2, (addL_n Rs _ s).2], fun x hx => ?_, fun m b hb => addL_hp_mono hh (fun j hj => (hpred j ((hsel j).1 hj)).1) hb, fun d hd => ?_⟩
        · cases x with
          | tmp t =>
            exact hreads t (by simp only [readsOf]; refine List.mem_append.2 (.inl ?_); rw [List.mem_filterMap]; exact ⟨.tmp t, hx, rfl⟩)
          | _ => rfl
        · rw [h2] at hd; injection hd with hd; subst hd
          rw [(addL_n Rs _ s).2]; exact addL_room hh h1 hiL
      have h9' := astepH_sees hsees hreads h9
      have hadd : (addL Rs L s).add o.dst r.v r.new = some (addL Rs (i :: L) s) := by
        rw [h2]
        have hbl : Nat.blt r.dst s.n = true := by simpa using h3
        simp only [St.add, (addL_n Rs L s).1, hbl, cond_true, addL, h1, St.addR]
      refine astepH_ok hr i3 h9' h10 hadd (fun G' a' w' hr' => ih (i :: L) _ G' a' w' (by simp; omega) ?_ hr')
      refine ⟨List.nodup_cons.2 ⟨hiL, hinv.nodup⟩, fun j hj => ?_, by simp [hinv.size], fun j hj => ?_, fun j hj oj hoj e he hb => ?_⟩
      · rcases List.mem_cons.1 hj with rfl | hj
        · exact hin
        · exact hinv.lt j hj
      · rw [Array.getD_eq_getD_getElem?, Array.getElem?_setIfInBounds]
        by_cases hij : i = j
        · subst hij; simp [hinv.size, i1]
        · rw [if_neg hij]
          have := hinv.iff j hj
          rw [Array.getD_eq_getD_getElem?] at this
          rw [this, List.mem_cons]
          exact ⟨fun h => .inr h, fun h => h.resolve_left (fun e => hij e.symm)⟩
      · rcases List.mem_cons.1 hj with rfl | hj
        · rw [i3] at hoj; injection hoj with hoj; subst hoj
          exact List.mem_cons_of_mem _ (hedge e he hb)
        · exact List.mem_cons_of_mem _ (hinv.closed j hj oj hoj e he hb)

theorem adraw_ok {ops : Array Oper} {n : Nat} {ds : List (Nat × Dec)} {acc acc' : List Prop} {s' : St} (h : adraw P ops n ds s acc = some (acc', s')) (hp : Alls acc') :
    Alls acc ∧ ∀ (Q : Exit → Act → World → Prop) (w₀ : World) (G₀ : Gh) (hp₀ : List (Nat × Box)) (G : Gh) (a : Act) (w : World) (id : Nat), Rel w₀ G₀ hp₀ G s a w → (∀ G' a' w', Rel w₀ G₀ hp₀ G' s' a' w' → Q .normal a' w') → (Code.region id ops true).wp P Q a w := by
  unfold adraw at h
  cases hb : edgesFine ops.toList 0 && tailFine (ops.toList.drop n) n && Nat.ble n ops.size && P.follows .mixedOrders <;> rw [hb] at h <;> simp only [cond_true, cond_false, reduceCtorEq] at h
  simp only [Bool.and_eq_true, Nat.ble_eq] at hb
  obtain ⟨⟨⟨hed, ht⟩, hn⟩, hm⟩ := hb
  split at h
  · rename_i Rs acc1 hgo
    have haops := fun (Q : Exit → Act → World → Prop) (w₀ : World) (G₀ : Gh) (hp₀ : List (Nat × Box)) => tail_ok (P := P) (w₀ := w₀) (G₀ := G₀) (hp₀ := hp₀) (Q := Q) hed ht (ops.toList.drop n) n (addAll Rs s) acc1 acc' s' (Nat.le_refl _) rfl hn h hp
    have hacc1 := (haops (fun _ _ _ => True) default ⟨fun _ _ => none, fun _ => none, fun _ => none⟩ []).1
    obtain ⟨h1, ⟨ex, h2, h2'⟩, h3⟩ := headGo_ok (ops.toList.take n) 0 [] Rs acc acc1 rfl hgo hacc1
    have hlen : Rs.length = n := by rw [h2]; simp [h2']; omega
    have hH : ∀ i o, i < n → ops[i]? = some o → HOk P ops ds s Rs i o := fun i o hi ho => by
      have := h3 i o (by rw [List.getElem?_take, if_pos hi]; simpa using ho)
      simpa using this
    have hop : ∀ i, i < n → ops[i]? = some (ops[i]?.getD default) := fun i hi => by
      have : i < ops.size := by omega
      simp [this]
    have hh : Head s Rs := by
      refine ⟨fun i j r r' hi hj hd => ?_, fun i r hi => ?_, fun i r hi => ?_⟩
      · have hi' : i < n := by have := (List.getElem?_eq_some_iff.1 hi).1; omega
        have hj' : j < n := by have := (List.getElem?_eq_some_iff.1 hj).1; omega
        obtain ⟨ri, _, k1, _, _, _, _, k6, _⟩ := hH i _ hi' (hop i hi')
        obtain ⟨rj, _, l1, _, _, _, _, l6, _⟩ := hH j _ hj' (hop j hj')
        rw [hi] at k1; injection k1 with k1; subst k1
        rw [hj] at l1; injection l1 with l1; subst l1
        rcases Nat.lt_trichotomy i j with hlt | heq | hgt
        · exact absurd hd (freshDst_iff.1 l6 r (List.mem_of_getElem? (i := i) (by rw [List.getElem?_take, if_pos hlt]; exact hi)))
        · exact heq
        · exact absurd hd.symm (freshDst_iff.1 k6 r' (List.mem_of_getElem? (i := j) (by rw [List.getElem?_take, if_pos hgt]; exact hj)))
      · have hi' : i < n := by have := (List.getElem?_eq_some_iff.1 hi).1; omega
        obtain ⟨ri, ps, k1, k2, _, _, _, _, _, _, k9, _⟩ := hH i _ hi' (hop i hi')
        rw [hi] at k1; injection k1 with k1; subst k1
        have := astepH_names k2 k9
        have hlen' : ∀ k, k < (Rs.take i).length → Rs[0 + k]? = (Rs.take i)[k]? := fun k hk => by
          rw [List.getElem?_take, if_pos (by simp at hk; omega), Nat.zero_add]
        rw [addSel_eq (Rs := Rs) (Rs.take i) 0 s hlen', (addL_n Rs _ s).2] at this
        exact this
      · have hi' : i < n := by have := (List.getElem?_eq_some_iff.1 hi).1; omega
        obtain ⟨ri, _, k1, _, _, k4, _⟩ := hH i _ hi' (hop i hi')
        rw [hi] at k1; injection k1 with k1; subst k1
        exact k4
    refine ⟨h1, fun Q w₀ G₀ hp₀ G a w id hr hN => wp_region_any hm ?_⟩
    refine head_ok (w₀ := w₀) (G₀ := G₀) (hp₀ := hp₀) (Q := Q) hn hed ht hlen hH hh (fun G a w listed hr' hsz hli => ?_) ops.size [] _ G a _ (by simp) ?_ ?_
    · exact (haops Q w₀ G₀ hp₀).2 G a w listed hr' hsz hli hN
    · refine ⟨List.nodup_nil, fun i hi => (by cases hi), by simp, fun j hj => ?_, fun i hi => (by cases hi)⟩
      rw [Array.getD_eq_getD_getElem?]
      simp [hj]
    · exact ⟨hr.defers, hr.size, hr.frame, hr.fresh, ⟨⟨hr.fin.mem.agree, hr.fin.mem.one, hr.fin.mem.holds, hr.fin.mem.apart⟩, ⟨hr.fin.bel.os, hr.fin.bel.tape, hr.fin.bel.output, hr.fin.bel.size, hr.fin.bel.block⟩, hr.fin.imm_le, hr.fin.imm_new, hr.fin.base, hr.fin.keep⟩⟩
  · cases h
end
end Go.Sym
