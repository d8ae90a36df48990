/- A region that draws its order: the proof. -/
import Derived.Test.YtlfafgmhjplbeaaSymM
namespace Go.Sym
open Go.RowKit

theorem aval_none_new {P : Program} {o : Oper} {t st : St} {d : D} {R : List Prop × AV × List (Nat × Box)} (h : anew P t d o = some R) : aval P st d o.op = none := by
  obtain ⟨dst, op, ty, pos, after, guard⟩ := o
  unfold anew at h
  split at h
  · rename_i ho _; simp only at ho; subst ho; rfl
  · rename_i ho _; simp only at ho; subst ho; rfl
  · rename_i ho _; simp only at ho; subst ho; rfl
  · rename_i ho _; simp only at ho; subst ho; rfl
  · rename_i ho _; simp only at ho; subst ho; rfl
  · rename_i src dst x tt ho _
    simp only at ho; subst ho
    split at h
    · rename_i sd E b hs hd hx
      simp only [aval, hs]
      split
      · rename_i v _ hv
        have : aConv P dst v = none := by unfold aConv; rw [hd]
        rw [this]; simp only [hd]
      · rfl
    · cases h
  · cases h
theorem srcOf_sees {t st : St} {y : AV} {r : List AV × Nat} (hhp : ∀ n b, look t.hp n = some b → look st.hp n = some b) (h : srcOf t y = some r) : srcOf st y = some r := by
  unfold srcOf at h ⊢
  split at h
  · exact h
  · exact h
  · exact h
  · split at h
    · rename_i hb; simp only [hhp _ _ hb]; exact h
    · cases h
  · cases h
theorem aAppend_sees {P : Program} {t st : St} {d : D} {ty ty2 : TypeId} {old : List AV} {n : Nat} {y : AV} {r : List Prop × Box} (hhp : ∀ n b, look t.hp n = some b → look st.hp n = some b) (h : aAppend P t d ty ty2 old n y = some r) : aAppend P st d ty ty2 old n y = some r := by
  unfold aAppend at h ⊢
  split at h
  · split at h
    · rename_i hsz hsrc; rw [srcOf_sees hhp hsrc, hsz]; exact h
    · cases h
  · cases h
mutual
theorem vw_sees {b : Bool} {hp hp' : List (Nat × Box)} (hhp : ∀ n b, look hp n = some b → look hp' n = some b) {x y : AV} {ps : List Prop} (h : vw b hp x y = some ps) : vw b hp' x y = some ps := by
  unfold vw at h ⊢
  split at h
  · exact vws_sees hhp h
  · exact vws_sees hhp h
  · cases b
    · cases h
    · simp only [cond_true] at h ⊢
      split at h
      · rename_i hl; rw [hhp _ _ hl]; exact h
      · cases h
  · exact h
  · exact h
  · exact h
theorem vws_sees {b : Bool} {hp hp' : List (Nat × Box)} (hhp : ∀ n b, look hp n = some b → look hp' n = some b) {xs ys : List AV} {ps : List Prop} (h : vws b hp xs ys = some ps) : vws b hp' xs ys = some ps := by
  unfold vws at h ⊢
  split at h
  · exact h
  · split at h
    · rename_i h1
      split at h
      · rename_i h2
        rw [vw_sees hhp h1, vws_sees hhp h2]; exact h
      · cases h
    · cases h
  · cases h
end
theorem anew_sees {P : Program} {o : Oper} {t st : St} {d : D} {R : List Prop × AV × List (Nat × Box)} (hs : Sees o t st) (h : anew P t d o = some R) : anew P st d o = some R := by
  have hev := hs.ev
  have hroom := hs.room
  have hnx := hs.nx
  obtain ⟨dst, op, ty, pos, after, guard⟩ := o
  unfold anew at h ⊢
  simp only at hev hroom h ⊢
  split at h
  · rename_i T tt
    split at h
    · rename_i cs hz
      cases hb : AV.ones cs && noRange (t.nx + 16 * tt) t.hp <;> rw [hb] at h <;> simp only [cond_true, cond_false, reduceCtorEq] at h
      simp only [Bool.and_eq_true] at hb
      rw [hb.1, hroom tt rfl, ← hnx]; exact h
    · cases h
  · rename_i T x tt
    rw [← hev x (by simp [Op.operands])]
    split at h
    · rename_i v hx
      cases hb : AV.ones v.cells && noRange (t.nx + 16 * tt) t.hp <;> rw [hb] at h <;> simp only [cond_true, cond_false, reduceCtorEq] at h
      simp only [Bool.and_eq_true] at hb
      have hr := hroom tt rfl
      rw [← hnx] at hr
      simp only [hb.1, hr, ← hnx, Bool.and_self, cond_true]; exact h
    · cases h
  · rename_i g args tys tt
    have h1 : t.ev g = st.ev g := hev g (by simp [Op.operands, Call.operands])
    have h2 : t.evs args.toList = st.evs args.toList := evs_sees (fun x hx => hev x (by simp [Op.operands, Call.operands]; exact .inr (by simpa using hx)))
    rw [← h1, ← h2]
    split at h
    · rename_i f cap xs bb xs' r hp' hg hargs
      split at h
      · rename_i pv hvw
        cases hb : namesLt 16 hp' && noRange (t.nx + 16 * tt) t.hp && (!bb || noRef r) <;> rw [hb] at h <;> simp only [cond_true, cond_false, reduceCtorEq] at h
        simp only [Bool.and_eq_true] at hb
        have hr := hroom tt rfl
        rw [← hnx] at hr
        rw [vws_sees hs.hp hvw]
        simp only [hb.1.1, hb.2, hr, ← hnx, Bool.and_self, cond_true]; exact h
      · cases h
    · cases h
  · rename_i args argTypes tt
    split at h
    · rename_i x y ty1 ty2 ha ht
      have hm : ∀ z ∈ args.toList, t.ev z = st.ev z := fun z hz => hev z (by simp [Op.operands, Call.operands]; simpa using hz)
      rw [← hm x (by rw [ha]; simp), ← hm y (by rw [ha]; simp)]
      split at h
      · rename_i v hx hy
        split at h
        · rename_i ps b happ
          cases hb : noRange (t.nx + 16 * tt) t.hp <;> rw [hb] at h <;> simp only [cond_true, cond_false, reduceCtorEq] at h
          have hr := hroom tt rfl
          rw [← hnx] at hr
          simp only [aAppend_sees hs.hp happ, hr, ← hnx, cond_true]; exact h
        · cases h
      · cases h
    · cases h
  · rename_i ty1 len parts tt
    split at h
    · rename_i ps b hbs
      have : aBuildSlice P st d ty1 len parts.toList = some (ps, b) := by
        unfold aBuildSlice at hbs ⊢
        rw [← aparts_sees (t := t) (st := st) (fun x hx => hev x (by simpa [Op.operands] using hx))]; exact hbs
      cases hb : noRange (t.nx + 16 * tt) t.hp <;> rw [hb] at h <;> simp only [cond_true, cond_false, reduceCtorEq] at h
      have hr := hroom tt rfl
      rw [← hnx] at hr
      simp only [this, hr, ← hnx, cond_true]; exact h
    · cases h
  · rename_i src dst x tt
    rw [← hev x (by simp [Op.operands])]
    split at h
    · rename_i sd E b hs1 hd hx
      split at h
      · rename_i he
        cases hb : noRange (t.nx + 16 * tt) t.hp <;> rw [hb] at h <;> simp only [cond_true, cond_false, reduceCtorEq] at h
        have hr := hroom tt rfl
        rw [← hnx] at hr
        simp only [hr, ← hnx, cond_true]; exact h
      · cases h
    · cases h
  · cases h
theorem aadd_sees {P : Program} {o : Oper} {t st : St} {d : D} {R : List Prop × AV × List (Nat × Box)} (hs : Sees o t st) (h : aadd P t d o = some R) : aadd P st d o = some R := by
  unfold aadd at h ⊢
  split at h
  · rename_i ps v hv; rw [aval_sees hs hv]; exact h
  · rw [aval_none_new h]; exact anew_sees hs h
theorem guardOf_sees {ops : Array Oper} {o : Oper} {t st : St} {j : Nat} {want : Bool} (hg : o.guard = some (j, want)) (hr : ∀ d ∈ readsOf ops o, look t.fr d = look st.fr d) : guardOf ops t j = guardOf ops st j := by
  unfold guardOf
  cases hj : ops[j]? with
  | none => rfl
  | some oj =>
    simp only
    cases hd : oj.dst with
    | none => rfl
    | some d => simp only; rw [hr d (by simp [readsOf, hg, hj, hd])]
theorem astepH_sees {P : Program} {ops : Array Oper} {o : Oper} {t st : St} {c : Dec} {R : List Prop × AV × List (Nat × Box)} (hs : Sees o t st) (hr : ∀ d ∈ readsOf ops o, look t.fr d = look st.fr d) (h : astepH P ops t c o = some R) : astepH P ops st c o = some R := by
  unfold astepH at h ⊢
  split at h
  · exact aadd_sees hs h
  · rename_i j want hg
    rw [← guardOf_sees hg hr]
    split at h
    · cases h
    · exact h
    · rename_i b hb
      cases hq : c.1 == want <;> rw [hq] at h <;> simp only [cond_true, cond_false] at h ⊢
      · exact h
      · split at h
        · rename_i ps v new ha; rw [aadd_sees hs ha]; exact h
        · cases h

section
variable {P : Program} {w₀ : World} {G₀ : Gh} {hp₀ : List (Nat × Box)} {G : Gh} {s : St} {a : Act} {w : World}

theorem astepH_ok (hr : Rel w₀ G₀ hp₀ G s a w) {ops : Array Oper} {i : Nat} {o : Oper} {c : Dec} {ps : List Prop} {v : AV} {new : List (Nat × Box)} {s' : St} (ho : ops[i]? = some o) (h : astepH P ops s c o = some (ps, v, new)) (hp : Alls ps) (hs : s.add o.dst v new = some s')
    {N : Act → World → Prop} {Q : Exit → Act → World → Prop} (hN : ∀ G' a' w', Rel w₀ G₀ hp₀ G' s' a' w' → N a' w') : wpOp P ops Q i N a w := by
  unfold wpOp
  simp only [ho]
  unfold astepH at h
  split at h
  · rename_i hg
    rw [if_pos (by simp [Region.wanted, hg])]
    exact .inl (aadd_ok hr h hp hs hN)
  · rename_i j want hg
    split at h
    · cases h
    · rename_i hb
      have hy := guardOf_ok hr hb
      simp only [Option.some.injEq, Prod.mk.injEq] at h; obtain ⟨rfl, rfl, rfl⟩ := h
      rw [if_neg (by simp [Region.wanted, hg, hy])]
      exact hN _ _ _ (aval_rel hr hs rfl)
    · rename_i b hb
      have hy := guardOf_ok hr hb
      cases hq : c.1 == want <;> rw [hq] at h <;> simp only [cond_true, cond_false] at h
      · simp only [Option.some.injEq, Prod.mk.injEq] at h; obtain ⟨rfl, rfl, rfl⟩ := h
        simp only [Alls, and_true] at hp
        rw [if_neg (by
          simp only [Region.wanted, hg, hy, hp]
          simp only [beq_eq_false_iff_ne, ne_eq] at hq
          simpa using hq)]
        exact hN _ _ _ (aval_rel hr hs rfl)
      · split at h
        · rename_i ps' v' new' ha
          simp only [Option.some.injEq, Prod.mk.injEq] at h; obtain ⟨rfl, rfl, rfl⟩ := h
          obtain ⟨hp1, hp2⟩ := hp
          rw [if_pos (by simp only [Region.wanted, hg, hy, hp1]; simpa using hq)]
          exact .inl (aadd_ok hr ha hp2 hs hN)
        · cases h

/-- two states that say the same -/
structure St.eqv (s t : St) : Prop where
  n : s.n = t.n
  nx : s.nx = t.nx
  fr : ∀ i, look s.fr i = look t.fr i
  hp : ∀ i, look s.hp i = look t.hp i
theorem Rel.eqv (hr : Rel w₀ G₀ hp₀ G s a w) {t : St} (h : s.eqv t) : Rel w₀ G₀ hp₀ G t a w := by
  refine ⟨hr.defers, by rw [hr.size, h.n], fun i x hx => hr.frame i x (by rw [h.fr]; exact hx), fun m hm hl => hr.fresh m (by rw [h.nx]; exact hm) (by rw [h.hp]; exact hl), ⟨⟨hr.fin.mem.agree, hr.fin.mem.one, fun n bx hb => hr.fin.mem.holds n bx (by rw [h.hp]; exact hb), fun n m bx bx' b h1 h2 => hr.fin.mem.apart n m bx bx' b (by rw [h.hp]; exact h1) (by rw [h.hp]; exact h2)⟩, hr.fin.bel, hr.fin.imm_le, hr.fin.imm_new, fun n bx b h1 => hr.fin.base n bx b (by rw [h.hp]; exact h1), hr.fin.keep⟩⟩


/-- the names of what an operation makes -/
def inR (lo : Nat) (l : List (Nat × Box)) : Prop := ∀ e ∈ l, lo ≤ e.1 ∧ e.1 < lo + 16
theorem shiftHp_names {ρ : Nat → Option Nat} {k : Nat} : ∀ {l : List (Nat × Box)}, namesLt 16 l = true → inR k (shiftHp ρ k l)
  | [], _ => by intro e he; cases he
  | (n, b) :: r, h => by
    simp only [namesLt, Bool.and_eq_true, Nat.blt_eq] at h
    intro e he
    rcases List.mem_cons.1 he with rfl | he
    · exact ⟨by simp, by simp; omega⟩
    · exact shiftHp_names h.2 e he
theorem anew_names {o : Oper} {t : St} {d : D} {ps : List Prop} {v : AV} {new : List (Nat × Box)} {k : Nat} (hd : o.dst = some k) (h : anew P t d o = some (ps, v, new)) : inR (t.nx + 16 * k) new := by
  obtain ⟨dst, op, ty, pos, after, guard⟩ := o
  simp only at hd; subst hd
  unfold anew at h
  simp only at h
  split at h
  · rename_i T tt hh; injection hh with hh; subst hh
    split at h
    · rename_i cs hz
      cases hb : AV.ones cs && noRange (t.nx + 16 * k) t.hp <;> rw [hb] at h <;> simp only [cond_true, cond_false, reduceCtorEq, Option.some.injEq, Prod.mk.injEq] at h
      obtain ⟨_, _, rfl⟩ := h
      intro e he; simp at he; subst he; exact ⟨by simp, by simp⟩
    · cases h
  · rename_i T x tt hh; injection hh with hh; subst hh
    split at h
    · rename_i v hx
      cases hb : AV.ones v.cells && noRange (t.nx + 16 * k) t.hp <;> rw [hb] at h <;> simp only [cond_true, cond_false, reduceCtorEq, Option.some.injEq, Prod.mk.injEq] at h
      obtain ⟨_, _, rfl⟩ := h
      intro e he; simp at he; subst he; exact ⟨by simp, by simp⟩
    · cases h
  · rename_i g args tys tt hh; injection hh with hh; subst hh
    split at h
    · rename_i bb _ r hp' hg hargs
      split at h
      · cases hb : namesLt 16 hp' && noRange (t.nx + 16 * k) t.hp && (!bb || noRef r) <;> rw [hb] at h <;> simp only [cond_true, cond_false, reduceCtorEq, Option.some.injEq, Prod.mk.injEq] at h
        obtain ⟨_, _, rfl⟩ := h
        simp only [Bool.and_eq_true] at hb
        exact shiftHp_names hb.1.1
      · cases h
    · cases h
  · rename_i args argTypes tt hh; injection hh with hh; subst hh
    split at h
    · split at h
      · split at h
        · cases hb : noRange (t.nx + 16 * k) t.hp <;> rw [hb] at h <;> simp only [cond_true, cond_false, reduceCtorEq, Option.some.injEq, Prod.mk.injEq] at h
          obtain ⟨_, _, rfl⟩ := h
          intro e he; simp at he; subst he; exact ⟨by simp, by simp⟩
        · cases h
      · cases h
    · cases h
  · rename_i ty1 len parts tt hh; injection hh with hh; subst hh
    split at h
    · cases hb : noRange (t.nx + 16 * k) t.hp <;> rw [hb] at h <;> simp only [cond_true, cond_false, reduceCtorEq, Option.some.injEq, Prod.mk.injEq] at h
      obtain ⟨_, _, rfl⟩ := h
      intro e he; simp at he; subst he; exact ⟨by simp, by simp⟩
    · cases h
  · rename_i src dst x tt hh; injection hh with hh; subst hh
    split at h
    · split at h
      · cases hb : noRange (t.nx + 16 * k) t.hp <;> rw [hb] at h <;> simp only [cond_true, cond_false, reduceCtorEq, Option.some.injEq, Prod.mk.injEq] at h
        obtain ⟨_, _, rfl⟩ := h
        intro e he; simp at he; subst he; exact ⟨by simp, by simp⟩
      · cases h
    · cases h
  · cases h
theorem aadd_names {o : Oper} {t : St} {d : D} {ps : List Prop} {v : AV} {new : List (Nat × Box)} {k : Nat} (hd : o.dst = some k) (h : aadd P t d o = some (ps, v, new)) : inR (t.nx + 16 * k) new := by
  unfold aadd at h
  split at h
  · simp only [Option.some.injEq, Prod.mk.injEq] at h
    obtain ⟨_, _, rfl⟩ := h
    intro e he; cases he
  · exact anew_names hd h
theorem astepH_names {ops : Array Oper} {o : Oper} {t : St} {c : Dec} {ps : List Prop} {v : AV} {new : List (Nat × Box)} {k : Nat} (hd : o.dst = some k) (h : astepH P ops t c o = some (ps, v, new)) : inR (t.nx + 16 * k) new := by
  unfold astepH at h
  split at h
  · exact aadd_names hd h
  · split at h
    · cases h
    · simp only [Option.some.injEq, Prod.mk.injEq] at h
      obtain ⟨_, _, rfl⟩ := h
      intro e he; cases he
    · rename_i j want _ _ b _
      cases hq : c.1 == want <;> rw [hq] at h <;> simp only [cond_true, cond_false] at h
      · simp only [Option.some.injEq, Prod.mk.injEq] at h
        obtain ⟨_, _, rfl⟩ := h
        intro e he; cases he
      · split at h
        · rename_i ha
          simp only [Option.some.injEq, Prod.mk.injEq] at h
          obtain ⟨_, _, rfl⟩ := h
          exact aadd_names hd ha
        · cases h
theorem look_mem : ∀ {l : List (Nat × Box)} {m : Nat} {b : Box}, look l m = some b → (m, b) ∈ l
  | [], m, b, h => by cases h
  | (k, v) :: r, m, b, h => by
    simp only [look] at h
    cases hb : Nat.beq k m
    · rw [hb] at h; exact List.mem_cons_of_mem _ (look_mem h)
    · rw [hb] at h; simp only [cond_true, Option.some.injEq] at h; subst h
      rw [← Nat.eq_of_beq_eq_true hb]; exact List.mem_cons_self
theorem noRange_iff {lo : Nat} : ∀ {l : List (Nat × Box)}, noRange lo l = true ↔ ∀ e ∈ l, e.1 < lo ∨ lo + 16 ≤ e.1
  | [] => by simp [noRange]
  | (n, b) :: r => by
    simp only [noRange, Bool.and_eq_true, Bool.or_eq_true, Nat.blt_eq, Nat.ble_eq, noRange_iff (l := r), List.mem_cons, forall_eq_or_imp]

/- what is known when some operations of the head have run -/
def addL (Rs : List HR) : List Nat → St → St
  | [], s => s
  | i :: L, s => match Rs[i]? with
    | some r => (addL Rs L s).addR r
    | none => addL Rs L s
theorem addL_append (Rs : List HR) : ∀ (A B : List Nat) (s : St), addL Rs (A ++ B) s = addL Rs A (addL Rs B s)
  | [], B, s => rfl
  | i :: A, B, s => by simp only [List.cons_append, addL, addL_append Rs A B s]
theorem addSel_eq {Rs : List HR} {sel : List Nat} : ∀ (rs : List HR) (j : Nat) (t : St), (∀ k, k < rs.length → Rs[j + k]? = rs[k]?) → addSel sel rs j t = addL Rs (((List.range' j rs.length).filter (memN sel)).reverse) t
  | [], j, t, _ => rfl
  | r :: rs, j, t, h => by
    have h0 : Rs[j]? = some r := by simpa using h 0 (by simp)
    rw [addSel, addSel_eq rs (j + 1) _ (fun k hk => by have := h (k + 1) (by simp; omega); rw [show j + 1 + k = j + (k + 1) by omega, this]; simp), List.length_cons, List.range'_succ]
    cases hm : memN sel j
    · rw [List.filter_cons_of_neg (by simp [hm])]; rfl
    · rw [List.filter_cons_of_pos hm, List.reverse_cons, addL_append]
      simp only [addL, h0, cond_true]
theorem addAll_eq {Rs : List HR} : ∀ (rs : List HR) (j : Nat) (t : St), (∀ k, k < rs.length → Rs[j + k]? = rs[k]?) → addAll rs t = addL Rs ((List.range' j rs.length).reverse) t
  | [], j, t, _ => rfl
  | r :: rs, j, t, h => by
    have h0 : Rs[j]? = some r := by simpa using h 0 (by simp)
    rw [addAll, addAll_eq rs (j + 1) _ (fun k hk => by have := h (k + 1) (by simp; omega); rw [show j + 1 + k = j + (k + 1) by omega, this]; simp), List.length_cons, List.range'_succ, List.reverse_cons, addL_append]
    simp only [addL, h0]
theorem addL_n (Rs : List HR) : ∀ (L : List Nat) (s : St), (addL Rs L s).n = s.n ∧ (addL Rs L s).nx = s.nx
  | [], s => ⟨rfl, rfl⟩
  | i :: L, s => by
    simp only [addL]
    split
    · exact addL_n Rs L s
    · exact addL_n Rs L s

/-- the results of the head's operations -/
structure Head (s : St) (Rs : List HR) : Prop where
  dst : ∀ (i j : Nat) (r r' : HR), Rs[i]? = some r → Rs[j]? = some r' → r.dst = r'.dst → i = j
  names : ∀ (i : Nat) (r : HR), Rs[i]? = some r → inR (s.nx + 16 * r.dst) r.new
  room : ∀ (i : Nat) (r : HR), Rs[i]? = some r → noRange (s.nx + 16 * r.dst) s.hp = true

theorem addL_fr_in {Rs : List HR} (hh : Head s Rs) : ∀ {L : List Nat} {i : Nat} {r : HR}, i ∈ L → Rs[i]? = some r → look (addL Rs L s).fr r.dst = some r.v
  | j :: L, i, r, hi, hr => by
    simp only [addL]
    by_cases hij : j = i
    · subst hij; rw [hr]; simp only [St.addR, look]; rw [show Nat.beq r.dst r.dst = true by simp]; rfl
    · have hi' : i ∈ L := by rcases List.mem_cons.1 hi with h | h; · exact absurd h.symm hij
                             · exact h
      split
      · rename_i r' hr'
        have hne : Nat.beq r'.dst r.dst = false := by
          cases hb : Nat.beq r'.dst r.dst
          · rfl
          · exact absurd (hh.dst _ _ _ _ hr' hr (Nat.eq_of_beq_eq_true hb)) hij
        simp only [St.addR, look, hne, cond_false]
        exact addL_fr_in hh hi' hr
      · exact addL_fr_in hh hi' hr
theorem addL_fr_out {Rs : List HR} {d : Nat} : ∀ {L : List Nat}, (∀ i ∈ L, ∀ r : HR, Rs[i]? = some r → r.dst ≠ d) → look (addL Rs L s).fr d = look s.fr d
  | [], _ => rfl
  | j :: L, h => by
    simp only [addL]
    have ih := addL_fr_out (L := L) (fun i hi => h i (List.mem_cons_of_mem _ hi))
    split
    · rename_i r hr
      have hne : Nat.beq r.dst d = false := by
        cases hb : Nat.beq r.dst d
        · rfl
        · exact absurd (Nat.eq_of_beq_eq_true hb) (h j List.mem_cons_self r hr)
      simp only [St.addR, look, hne, cond_false]; exact ih
    · exact ih
theorem addL_hp_in {Rs : List HR} (hh : Head s Rs) : ∀ {L : List Nat} {i : Nat} {r : HR} {m : Nat} {b : Box}, i ∈ L → Rs[i]? = some r → look r.new m = some b → look (addL Rs L s).hp m = some b
  | j :: L, i, r, m, b, hi, hr, hb => by
    simp only [addL]
    by_cases hij : j = i
    · subst hij; rw [hr]; simp only [St.addR]; rw [look_append, hb]
    · have hi' : i ∈ L := by rcases List.mem_cons.1 hi with h | h; · exact absurd h.symm hij
                             · exact h
      have ih := addL_hp_in hh hi' hr hb
      split
      · rename_i r' hr'
        have hne : r'.dst ≠ r.dst := fun e => hij (hh.dst _ _ _ _ hr' hr e)
        simp only [St.addR]
        rw [look_append]
        cases hq : look r'.new m with
        | none => exact ih
        | some b' =>
          have h1 := hh.names _ _ hr' _ (look_mem hq)
          have h2 := hh.names _ _ hr _ (look_mem hb)
          simp only at h1 h2
          omega
      · exact ih
theorem addL_hp_out {Rs : List HR} {m : Nat} : ∀ {L : List Nat}, (∀ i ∈ L, ∀ r : HR, Rs[i]? = some r → look r.new m = none) → look (addL Rs L s).hp m = look s.hp m
  | [], _ => rfl
  | j :: L, h => by
    simp only [addL]
    have ih := addL_hp_out (L := L) (fun i hi => h i (List.mem_cons_of_mem _ hi))
    split
    · rename_i r hr
      simp only [St.addR]
      rw [look_append, h j List.mem_cons_self r hr]; exact ih
    · exact ih
theorem addL_hp_mono {Rs : List HR} (hh : Head s Rs) {L L' : List Nat} (hs : ∀ i ∈ L, i ∈ L') {m : Nat} {b : Box} (h : look (addL Rs L s).hp m = some b) : look (addL Rs L' s).hp m = some b := by
  by_cases hex : ∃ i ∈ L, ∃ r : HR, Rs[i]? = some r ∧ ∃ b', look r.new m = some b'
  · obtain ⟨i, hi, r, hr, b', hb'⟩ := hex
    rw [addL_hp_in hh hi hr hb'] at h
    injection h with h; subst h
    exact addL_hp_in hh (hs i hi) hr hb'
  · rw [addL_hp_out (fun i hi r hr => by cases hq : look r.new m with | none => rfl | some b' => exact absurd ⟨i, hi, r, hr, b', hq⟩ hex)] at h
    rw [addL_hp_out]
    · exact h
    · intro i hi r hr
      cases hq : look r.new m with
      | none => rfl
      | some b' =>
        have h1 := hh.names _ _ hr _ (look_mem hq)
        have h2 := noRange_iff.1 (hh.room _ _ hr) _ (look_mem h)
        simp only at h1 h2
        omega
theorem addL_room {Rs : List HR} (hh : Head s Rs) {i : Nat} {r : HR} (hr : Rs[i]? = some r) : ∀ {L : List Nat}, i ∉ L → noRange (s.nx + 16 * r.dst) (addL Rs L s).hp = true
  | [], _ => hh.room i r hr
  | j :: L, hi => by
    simp only [addL]
    have ih := addL_room hh hr (L := L) (fun h => hi (List.mem_cons_of_mem _ h))
    split
    · rename_i r' hr'
      have hne : r'.dst ≠ r.dst := fun e => hi (by rw [← hh.dst _ _ _ _ hr' hr e]; exact List.mem_cons_self)
      simp only [St.addR]
      rw [noRange_iff]
      intro e he
      rcases List.mem_append.1 he with he | he
      · have := hh.names _ _ hr' _ he
        omega
      · exact noRange_iff.1 ih e he
    · exact ih
end
end Go.Sym
