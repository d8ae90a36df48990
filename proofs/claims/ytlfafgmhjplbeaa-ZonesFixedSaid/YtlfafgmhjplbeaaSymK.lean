/- One operation; a region in the order of the text; the machine; what a derivation shows. -/
import Derived.Test.YtlfafgmhjplbeaaSymJ
namespace Go.Sym
open Go.RowKit

abbrev Dec := Bool × D
def decOf (ds : List (Nat × Dec)) (i : Nat) : Dec := match look ds i with
  | some x => x
  | none => (false, .none)
def aex (P : Program) (s : St) (d : D) (o : Oper) : Option (List Prop × St) :=
  match aadd P s d o with
  | some (ps, v, new) => match s.add o.dst v new with
    | some s' => some (ps, s')
    | none => none
  | none => amod P s d o
/-- the Bool that decides whether a guarded operation runs -/
def guardOf (ops : Array Oper) (s : St) (j : Nat) : Option (Option Bool) :=
  match ops[j]? with
  | some oj => match oj.dst with
    | some t => match look s.fr t with
      | some (.bool b) => some (some b)
      | some (.val (.tuple _)) => some none
      | _ => none
    | none => none
  | none => none
def astep (P : Program) (ops : Array Oper) (s : St) (c : Dec) (o : Oper) : Option (List Prop × St) :=
  match o.guard with
  | none => aex P s c.2 o
  | some (j, want) => match guardOf ops s j with
    | none => none
    | some none => match s.add o.dst (.val undef) [] with
        | some s' => some ([], s')
        | none => none
    | some (some b) => bif c.1 == want then (match aex P s c.2 o with
        | some (ps, s') => some ((b = c.1) :: ps, s')
        | none => none)
      else match s.add o.dst (.val undef) [] with
        | some s' => some ([b = c.1], s')
        | none => none
def aops (P : Program) (ops : Array Oper) (ds : List (Nat × Dec)) : List Oper → Nat → St → List Prop → Option (List Prop × St)
  | [], _, s, acc => some (acc, s)
  | o :: l, i, s, acc => match astep P ops s (decOf ds i) o with
    | some (ps, s') => aops P ops ds l (i + 1) s' (ps ++ acc)
    | none => none
def St.bump (s : St) : St := { s with nx := s.nx + 16 * s.n }

section
variable {P : Program} {w₀ : World} {G₀ : Gh} {hp₀ : List (Nat × Box)} {G : Gh} {s : St} {a : Act} {w : World}

theorem aex_ok (hr : Rel w₀ G₀ hp₀ G s a w) {o : Oper} {d : D} {ps : List Prop} {s' : St} (h : aex P s d o = some (ps, s')) (hp : Alls ps) {N : Act → World → Prop} {Q : Exit → Act → World → Prop} (hN : ∀ G' a' w', Rel w₀ G₀ hp₀ G' s' a' w' → N a' w') : o.wp P a w N Q := by
  unfold aex at h
  split at h
  · rename_i ps' v new ha
    split at h
    · rename_i s1 hs
      simp only [Option.some.injEq, Prod.mk.injEq] at h; obtain ⟨rfl, rfl⟩ := h
      exact aadd_ok hr ha hp hs hN
    · cases h
  · exact amod_ok hr h hp hN
theorem guardOf_ok (hr : Rel w₀ G₀ hp₀ G s a w) {ops : Array Oper} {j : Nat} {b : Option Bool} (h : guardOf ops s j = some b) : yielded ops a.tmps j = b := by
  unfold guardOf at h
  split at h
  · rename_i oj hj
    split at h
    · rename_i t ht
      split at h
      · rename_i b' hl
        simp only [Option.some.injEq] at h; subst h
        obtain ⟨v, h1, h2⟩ := hr.frame _ _ hl
        simp only [Rep] at h2; subst h2
        simp [yielded, hj, ht, h1]
      · rename_i vs hl
        simp only [Option.some.injEq] at h; subst h
        obtain ⟨v, h1, h2⟩ := hr.frame _ _ hl
        simp only [Rep] at h2; subst h2
        simp [yielded, hj, ht, h1]
      · cases h
    · cases h
  · cases h
theorem astep_ok (hr : Rel w₀ G₀ hp₀ G s a w) {ops : Array Oper} {i : Nat} {o : Oper} {c : Dec} {ps : List Prop} {s' : St} (ho : ops[i]? = some o) (h : astep P ops s c o = some (ps, s')) (hp : Alls ps)
    {N : Act → World → Prop} {Q : Exit → Act → World → Prop} (hN : ∀ G' a' w', Rel w₀ G₀ hp₀ G' s' a' w' → N a' w') : wpOp P ops Q i N a w := by
  unfold wpOp
  simp only [ho]
  unfold astep at h
  split at h
  · rename_i hg
    have : Region.wanted o (yielded ops a.tmps) = true := by simp [Region.wanted, hg]
    rw [if_pos this]
    exact .inl (aex_ok hr h hp hN)
  · rename_i j want hg
    split at h
    · cases h
    · rename_i hb
      have hy := guardOf_ok hr hb
      split at h
      · rename_i s1 hs
        simp only [Option.some.injEq, Prod.mk.injEq] at h; obtain ⟨rfl, rfl⟩ := h
        have : ¬ Region.wanted o (yielded ops a.tmps) = true := by simp [Region.wanted, hg, hy]
        rw [if_neg this]
        exact hN _ _ _ (aval_rel hr hs rfl)
      · cases h
    · rename_i b hb
      have hy := guardOf_ok hr hb
      cases hq : c.1 == want <;> rw [hq] at h <;> simp only [cond_true, cond_false] at h
      · split at h
        · rename_i s1 hs
          simp only [Option.some.injEq, Prod.mk.injEq] at h; obtain ⟨rfl, rfl⟩ := h
          simp only [Alls, and_true] at hp
          have : ¬ Region.wanted o (yielded ops a.tmps) = true := by
            simp only [Region.wanted, hg, hy, hp]
            simp only [beq_eq_false_iff_ne, ne_eq] at hq
            simpa using hq
          rw [if_neg this]
          exact hN _ _ _ (aval_rel hr hs rfl)
        · cases h
      · split at h
        · rename_i ps' s1 hs
          simp only [Option.some.injEq, Prod.mk.injEq] at h; obtain ⟨rfl, rfl⟩ := h
          obtain ⟨hp1, hp2⟩ := hp
          have : Region.wanted o (yielded ops a.tmps) = true := by
            simp only [Region.wanted, hg, hy, hp1]
            simpa using hq
          rw [if_pos this]
          exact .inl (aex_ok hr hs hp2 hN)
        · cases h
theorem aops_ok {ops : Array Oper} {ds : List (Nat × Dec)} {Q : Exit → Act → World → Prop} : ∀ (l : List Oper) (i : Nat) (s : St) (acc acc' : List Prop) (s' : St), (∀ j, j < l.length → ops[i + j]? = l[j]?) → aops P ops ds l i s acc = some (acc', s') → Alls acc' →
    Alls acc ∧ ∀ G a w, Rel w₀ G₀ hp₀ G s a w → (∀ G' a' w', Rel w₀ G₀ hp₀ G' s' a' w' → Q .normal a' w') → wpOps P ops Q (List.range' i l.length) a w
  | [], i, s, acc, acc', s', _, h, hp => by
    simp only [aops, Option.some.injEq, Prod.mk.injEq] at h; obtain ⟨rfl, rfl⟩ := h
    exact ⟨hp, fun G a w hr hN => by simpa [wpOps] using hN G a w hr⟩
  | o :: l, i, s, acc, acc', s', hl, h, hp => by
    simp only [aops] at h
    split at h
    · rename_i ps s1 hs
      obtain ⟨h1, h2⟩ := aops_ok (Q := Q) l (i + 1) s1 (ps ++ acc) acc' s' (fun j hj => by
        have := hl (j + 1) (by simp; omega)
        rw [show i + 1 + j = i + (j + 1) by omega, this]; simp) h hp
      obtain ⟨h3, h4⟩ := Alls_append.1 h1
      refine ⟨h4, fun G a w hr hN => ?_⟩
      have ho : ops[i]? = some o := by have := hl 0 (by simp); simpa using this
      rw [List.length_cons, List.range'_succ, wpOps_cons]
      exact astep_ok hr ho hs h3 (fun G' a' w' hr' => h2 G' a' w' hr' hN)
    · cases h

end
end Go.Sym
