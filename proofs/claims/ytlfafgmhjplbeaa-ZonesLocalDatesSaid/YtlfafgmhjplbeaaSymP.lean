/- The machine; what a derivation shows. -/
import Derived.Test.YtlfafgmhjplbeaaSymO
namespace Go.Sym
open Go.RowKit

/-- what a derivation tells on the way: at a region, at a test -/
inductive RD : Type 1
  | r (ds : List (Nat × Dec))
  | d (n : Nat) (ds : List (Nat × Dec))
  /-- an own slice is data from now on -/
  | fz (k : Nat)
  /-- the nil slice in slot i is an own slice from now on -/
  | on (i : Nat) (b : Box)
  | c (t : Bool)

def St.ownNil (s : St) (i : Nat) (b : Box) : Option St := match look s.fr i, b with
  | some (.val (.slice none 0 0)), .row sz enc l E => bif noRange (s.nx + 16 * i) s.hp && Nat.beq l.length 0 then some { n := s.n, fr := (i, .own (s.nx + 16 * i)) :: s.fr, hp := (s.nx + 16 * i, .row sz enc l E) :: s.hp, nx := s.nx + 16 * s.n } else none
  | _, _ => none
def ghost (s : St) : RD → Option St
  | .fz k => s.freeze k
  | .on i b => s.ownNil i b
  | _ => none
def isGh : List RD → Bool
  | .fz _ :: _ => true
  | .on _ _ :: _ => true
  | _ => false
def arun (P : Program) : Nat → List RD → List Item → St → List Prop → Option (List Prop × List Item × St)
  | 0, _, _, _, _ => none
  | n + 1, rs, k, s, acc => bif isGh rs then (match rs with
      | g :: rs' => match ghost s g with
        | some s' => arun P n rs' k s' acc
        | none => none
      | [] => none) else match k with
    | .code .skip :: k => arun P n rs k s acc
    | .inBlock _ :: k => arun P n rs k s acc
    | .inScope _ :: k => arun P n rs k s acc
    | .code (.seq x y) :: k => arun P n rs (.code x :: .code y :: k) s acc
    | .code (.cond c x y) :: k' => match rs with
      | .c t :: rs => match s.ev c with
        | some (.bool b) => arun P n rs (.code (bif t then x else y) :: k') s ((b = t) :: acc)
        | _ => none
      | _ => some (acc, k, s)
    | .code (.block id x) :: k => arun P n rs (.code x :: .inBlock id :: k) s acc
    | .code (.loop x) :: k => arun P n rs (.code x :: .inLoop x :: k) s acc
    | .inLoop x :: k => arun P n rs (.code x :: .inLoop x :: k) s acc
    | .code (.exit id) :: k => match exitTo id k with
      | some k' => arun P n rs k' s acc
      | none => none
    | .code (.region _ ops false) :: k' => match rs with
      | .r ds :: rs => match aops P ops ds ops.toList 0 s acc with
        | some (acc', s') => arun P n rs k' s'.bump acc'
        | none => none
      | _ => some (acc, k, s)
    | .code (.region _ ops true) :: k' => match rs with
      | .d h ds :: rs => match adraw P ops h ds s acc with
        | some (acc', s') => arun P n rs k' s'.bump acc'
        | none => none
      | _ => some (acc, k, s)
    | k => some (acc, k, s)

/-- from the middle of f's body on: the call ends in R -/
def Ex (P : Program) (f : FuncId) (k : List Item) (a : Act) (w : World) (R : Ending → World → Prop) : Prop :=
  ∀ (b : Frame) (cs : List Frame), b.fn = f → b.kind = .normal → ∃ e w' fr, R e w' ∧ Comes P (lone (b.at a k) cs w) (lone fr cs w') e ∧ fr.fn = f ∧ fr.leaving P w' e

/-- from the state s on, the call ends and hands back r and the own memory hp' -/
def Ok (P : Program) (f : FuncId) (hp₀ : List (Nat × Box)) (k : List Item) (s : St) (r : AV) (hp' : List (Nat × Box)) : Prop :=
  ∀ (w₀ : World) (G₀ G : Gh) (a : Act) (w : World), Rel w₀ G₀ hp₀ G s a w → Ex P f k a w (Post w₀ G₀ hp₀ r hp')

section
variable {P : Program} {w₀ : World} {G₀ : Gh} {hp₀ : List (Nat × Box)} {G : Gh} {s : St} {a : Act} {w : World}

theorem Rel.bump (hr : Rel w₀ G₀ hp₀ G s a w) : Rel w₀ G₀ hp₀ G s.bump a w := ⟨hr.defers, hr.size, hr.frame, fun m hm hl => hr.fresh m (by simp only [St.bump] at hm; omega) hl, hr.fin⟩

mutual
theorem Rep.frz {k : Nat} {y : AV} {G' : Gh} (hle : G.le G') (hy : ∀ v, Rep (.own k) G v → Rep y G' v) : ∀ {x : AV} {v : Value}, Rep x G v → Rep (AV.frz k y x) G' v
  | .undef, _, _ => trivial
  | .int _ _, _, h => h
  | .byte _, _, h => h
  | .bool _, _, h => h
  | .str _, _, h => h
  | .val _, _, h => h
  | .sl sz enc l, v, h => (show Rep (.sl sz enc l) G v from h).le hle
  | .rop cs, v, h => (show Rep (.rop cs) G v from h).le hle
  | .ptr b off, v, h => (show Rep (.ptr b off) G v from h).le hle
  | .oel n sz i off, v, h => (show Rep (.oel n sz i off) G v from h).le hle
  | .agg cs, _, ⟨vs, h1, h2⟩ => ⟨vs, h1, Reps.frz hle hy h2⟩
  | .tup cs, _, ⟨vs, h1, h2⟩ => ⟨vs, h1, Reps.frz hle hy h2⟩
  | .own n, v, h => by
    simp only [AV.frz]
    cases hb : Nat.beq n k
    · exact (show Rep (.own n) G v from h).le hle
    · have := Nat.eq_of_beq_eq_true hb; subst this; exact hy v h
  | .fn f first cap, _, ⟨fs, cs, h1, h2, h3⟩ => ⟨fs, cs, h1, Reps.frz hle hy h2, Reps.frz hle hy h3⟩
  | .iface t x, _, ⟨u, h1, h2⟩ => ⟨u, h1, Rep.frz hle hy h2⟩
theorem Reps.frz {k : Nat} {y : AV} {G' : Gh} (hle : G.le G') (hy : ∀ v, Rep (.own k) G v → Rep y G' v) : ∀ {xs : List AV} {vs : List Value}, Reps xs G vs → Reps (AV.frzs k y xs) G' vs
  | [], [], _ => trivial
  | x :: xs, v :: vs, h => ⟨Rep.frz hle hy h.1, Reps.frz hle hy h.2⟩
  | [], _ :: _, h => h.elim
  | _ :: _, [], h => h.elim
end
theorem frzFr_look {k : Nat} {y : AV} : ∀ {fr : List (Nat × AV)} {i : Nat} {x : AV}, look (frzFr k y fr) i = some x → ∃ x0, look fr i = some x0 ∧ x = AV.frz k y x0
  | [], i, x, h => by cases h
  | (n, z) :: r, i, x, h => by
    simp only [frzFr, look] at h ⊢
    cases hb : Nat.beq n i
    · rw [hb] at h; exact frzFr_look h
    · rw [hb] at h; simp only [cond_true, Option.some.injEq] at h ⊢; exact ⟨z, rfl, h.symm⟩
def frzB (k : Nat) (y : AV) : Box → Box
  | .cells cs T => .cells (AV.frzs k y cs) T
  | b => b
theorem frzHp_look {k : Nat} {y : AV} : ∀ {hp : List (Nat × Box)} {i : Nat}, look (frzHp k y hp) i = (look hp i).map (frzB k y)
  | [], i => rfl
  | (n, b) :: r, i => by
    cases b <;> simp only [frzHp, look] <;> cases hb : Nat.beq n i <;> simp [frzHp_look (hp := r), frzB]
theorem Rel.freeze (hr : Rel w₀ G₀ hp₀ G s a w) {k : Nat} {s' : St} (h : s.freeze k = some s') : ∃ G', Rel w₀ G₀ hp₀ G' s' a w := by
  unfold St.freeze at h
  split at h
  · rename_i sz α enc l E hk
    simp only [Option.some.injEq] at h; subst h
    have hl1 : ∀ n bx, look [(k, Box.row sz enc l E)] n = some bx → n = k ∧ bx = .row sz enc l E := fun n bx h => by
      simp only [look] at h
      cases hb : Nat.beq k n
      · rw [hb] at h; cases h
      · rw [hb] at h; simp only [cond_true, Option.some.injEq] at h
        exact ⟨(Nat.eq_of_beq_eq_true hb).symm, h.symm⟩
    have hlk : look [(k, Box.row sz enc l E)] k = some (.row sz enc l E) := by simp only [look]; rw [show Nat.beq k k = true by simp]; rfl
    have hf1 : Fin w₀ G₀ hp₀ G ({ s with hp := [(k, .row sz enc l E)] } : St).hp w := by
      refine ⟨⟨hr.fin.mem.agree, hr.fin.mem.one, fun n bx hb => ?_, fun n m bx bx' b h1 h2 _ _ => ?_⟩, hr.fin.bel, hr.fin.imm_le, hr.fin.imm_new, fun n bx b h1 h2 => ?_, hr.fin.keep⟩
      · obtain ⟨rfl, rfl⟩ := hl1 n bx hb; exact hr.fin.mem.holds _ _ hk
      · obtain ⟨rfl, _⟩ := hl1 n bx h1; obtain ⟨rfl, _⟩ := hl1 m bx' h2; rfl
      · obtain ⟨rfl, rfl⟩ := hl1 n bx h1; exact hr.fin.base _ _ b hk h2
    obtain ⟨z1, z2, z3, z4⟩ := allData_spec hf1
    let G' := G.allData [(k, .row sz enc l E)] w
    have hown : ∀ v, Rep (.own k) G v → Rep (.sl sz enc l) G' v := fun v hv => z4 k sz α enc l E v hlk hv
    have hnew : ∀ b o v, G'.imm b o = some v → G.imm b o = some v ∨ G.at k (.row sz enc l E) = some b := fun b o v h => by
      simp only [G', Gh.allData] at h
      cases hq : G.imm b o with
      | some u => rw [hq] at h; exact .inl h
      | none =>
        rw [hq] at h
        simp only at h
        split at h
        · rename_i hin
          obtain ⟨n, sz1, α1, enc1, l1, E1, i1, i2, _⟩ := hin
          obtain ⟨rfl, e⟩ := hl1 n _ i1
          rw [e] at i2; exact .inr i2
        · cases h
    have hother : ∀ n bx B, n ≠ k → look s.hp n = some bx → G.at n bx = some B → (∀ o, G.imm B o = none) → ∀ o, G'.imm B o = none := fun n bx B hn h1 h2 h3 o => by
      cases hq : G'.imm B o with
      | none => rfl
      | some v =>
        rcases hnew B o v hq with h | h
        · rw [h3] at h; cases h
        · exact absurd (hr.fin.mem.apart n k bx _ B h1 hk h2 h) hn
    have hlook : ∀ n bx, look ((k, Box.dead) :: frzHp k (.sl sz enc l) s.hp) n = some bx → bx = .dead ∨ (n ≠ k ∧ ∃ b0, look s.hp n = some b0 ∧ bx = frzB k (.sl sz enc l) b0) := fun n bx h => by
      simp only [look] at h
      cases hb : Nat.beq k n
      · rw [hb] at h; simp only [cond_false] at h
        rw [frzHp_look] at h
        cases hq : look s.hp n with
        | none => rw [hq] at h; cases h
        | some b0 => rw [hq] at h; simp only [Option.map_some, Option.some.injEq] at h; exact .inr ⟨fun e => by subst e; simp at hb, b0, rfl, h.symm⟩
      · rw [hb] at h; simp only [cond_true, Option.some.injEq] at h; exact .inl h.symm
    have hat : ∀ n b0, G'.at n (frzB k (.sl sz enc l) b0) = G.at n b0 := fun n b0 => by cases b0 <;> rfl
    refine ⟨G', ⟨hr.defers, hr.size, fun i x hx => ?_, fun m hm hl => ?_, ⟨⟨z2.agree, z2.one, fun n bx hb => ?_, fun n m bx bx' b h1 h2 h3 h4 => ?_⟩, hr.fin.bel, fun b o v h => z1.imm _ _ _ (hr.fin.imm_le b o v h), fun b o v h => ?_, fun n bx b h1 h2 => ?_, hr.fin.keep⟩⟩⟩
    · obtain ⟨x0, h1, rfl⟩ := frzFr_look hx
      obtain ⟨v, h2, h3⟩ := hr.frame i x0 h1
      exact ⟨v, h2, Rep.frz z1 hown h3⟩
    · refine hr.fresh m hm ?_
      simp only [look] at hl
      cases hb : Nat.beq k m
      · rw [hb] at hl; simp only [cond_false] at hl
        rw [frzHp_look] at hl
        cases hq : look s.hp m with
        | none => rfl
        | some b0 => rw [hq] at hl; cases hl
      · rw [hb] at hl; cases hl
    · rcases hlook n bx hb with rfl | ⟨hn, b0, h0, rfl⟩
      · trivial
      · have hb0 := hr.fin.mem.holds n b0 h0
        have ho := hother n b0
        cases b0 with
        | cells cs T =>
          obtain ⟨B, vs, h1, h2, h3, h4, h5⟩ := hb0
          exact ⟨B, vs, h1, h2, Reps.frz z1 hown h3, h4, ho B hn h0 (by simp [Gh.at, h1]) h5⟩
        | row sz1 enc1 l1 E1 =>
          obtain ⟨ad, c, h1, h2, h3⟩ := hb0
          refine ⟨ad, c, h1, h2, ?_⟩
          rcases h3 with h3 | ⟨g, vs, fz, k1, k2, k3, k4, k5, k6, k7, k8, k9⟩
          · exact .inl h3
          · exact .inr ⟨g, vs, fz, k1, k2, k3, k4, k5, k6, Reps.data_le z1.imm k7, k8, ho g hn h0 (by subst k1; simp [Gh.at, h1]) k9⟩
        | dead => trivial
    · rcases hlook n bx h1 with rfl | ⟨hn, b0, h0, rfl⟩
      · cases h3
      · rcases hlook m bx' h2 with rfl | ⟨hm, b1, h5, rfl⟩
        · cases h4
        · rw [hat] at h3 h4; exact hr.fin.mem.apart n m b0 b1 b h0 h5 h3 h4
    · rcases hnew b o v h with h | h
      · exact hr.fin.imm_new b o v h
      · exact .inr (hr.fin.base k _ b hk h)
    · rcases hlook n bx h1 with rfl | ⟨hn, b0, h0, rfl⟩
      · cases h2
      · rw [hat] at h2; exact hr.fin.base n b0 b h0 h2
  · cases h
theorem Rel.ownNil (hr : Rel w₀ G₀ hp₀ G s a w) {i : Nat} {bx : Box} {s' : St} (h : s.ownNil i bx = some s') : ∃ G', Rel w₀ G₀ hp₀ G' s' a w := by
  unfold St.ownNil at h
  split at h
  · rename_i sz α enc l E hi
    cases hb : noRange (s.nx + 16 * i) s.hp && Nat.beq l.length 0 <;> rw [hb] at h <;> simp only [cond_true, cond_false, reduceCtorEq, Option.some.injEq] at h
    subst h
    simp only [Bool.and_eq_true] at hb
    have hl : l = [] := List.eq_nil_of_length_eq_zero (Nat.eq_of_beq_eq_true hb.2)
    subst hl
    let k := s.nx + 16 * i
    have hk : look s.hp k = none := noRange_look hb.1 k (Nat.le_refl _) (by omega)
    obtain ⟨hkb, hko⟩ := hr.fresh k (by omega) hk
    have hle : G.le (G.addOwn k (none, 0, 0)) := Gh.addOwn_le hko
    have hl1 : ∀ n bx, look [(k, Box.row sz enc [] E)] n = some bx → n = k ∧ bx = .row sz enc [] E := fun n bx h => by
      simp only [look] at h
      cases hb : Nat.beq k n
      · rw [hb] at h; cases h
      · rw [hb] at h; simp only [cond_true, Option.some.injEq] at h
        exact ⟨(Nat.eq_of_beq_eq_true hb).symm, h.symm⟩
    refine ⟨G.addOwn k (none, 0, 0), ⟨hr.defers, hr.size, fun j x hx => ?_, fun m hm hlm => ?_, ?_⟩⟩
    · simp only [look] at hx
      cases hq : Nat.beq i j
      · rw [hq] at hx
        obtain ⟨v, h1, h2⟩ := hr.frame j x hx
        exact ⟨v, h1, h2.le hle⟩
      · rw [hq] at hx; simp only [cond_true, Option.some.injEq] at hx; subst hx
        have := Nat.eq_of_beq_eq_true hq; subst this
        obtain ⟨v, h1, h2⟩ := hr.frame i _ hi
        exact ⟨v, h1, none, 0, 0, Gh.addOwn_self, h2⟩
    · simp only [look] at hlm
      cases hq : Nat.beq (s.nx + 16 * i) m
      · rw [hq] at hlm
        simp only at hm
        obtain ⟨h1, h2⟩ := hr.fresh m (by omega) hlm
        refine ⟨h1, ?_⟩
        show (bif Nat.beq m k then some _ else G.own m) = none
        cases hbm : Nat.beq m k
        · exact h2
        · have := Nat.eq_of_beq_eq_true hbm; subst this; simp [k] at hq
      · rw [hq] at hlm; cases hlm
    · refine hr.fin.extend (new := [(k, .row sz enc [] E)]) hle ⟨rfl, rfl, rfl, Nat.le_refl _, fun _ _ _ => rfl⟩ (fun _ _ _ h => .inl h) hr.fin.mem.agree hr.fin.mem.one ?_ ?_ ?_
      · intro n bx h; obtain ⟨rfl, _⟩ := hl1 n bx h; exact hk
      · intro n bx h
        obtain ⟨rfl, rfl⟩ := hl1 n bx h
        exact ⟨⟨none, 0, Gh.addOwn_self, by simp, .inl ⟨rfl, rfl, rfl⟩⟩, fun b hb => by simp only [Gh.at, Gh.addOwn_self] at hb; cases hb⟩
      · intro n m bx bx' b h1 h2 _ _
        obtain ⟨rfl, _⟩ := hl1 n bx h1
        obtain ⟨rfl, _⟩ := hl1 m bx' h2
        rfl
  · cases h

/-- a step of the machine that leaves frame and world alone -/
theorem Ex.step {f : FuncId} {k k' : List Item} {R : Ending → World → Prop} (hs : ∀ (b : Frame) cs, step P (lone (b.at a k) cs w) = .next (lone (b.at a k') cs w)) (h : Ex P f k' a w R) : Ex P f k a w R :=
  fun b cs hb hk => by
    obtain ⟨e, w', fr, h1, h2, h3⟩ := h b cs hb hk
    exact ⟨e, w', fr, h1, .of_steps (.one (hs b cs)) h2, h3⟩
theorem Ex.arrive {f : FuncId} {k : List Item} {c : Item} {R : Ending → World → Prop} (h : ∀ (b : Frame) (cs : List Frame), ∃ e a' w', (match e with | .normal => Ex P f k a' w' R | _ => False) ∧ Arrives P (lone (b.at a (c :: k)) cs w) b k cs e a' w') : Ex P f (c :: k) a w R :=
  fun b cs hb hk => by
    obtain ⟨e, a', w', h1, h2⟩ := h b cs
    cases e <;> try exact h1.elim
    obtain ⟨e, w'', fr, k1, k2, k3⟩ := h1 b cs hb hk
    exact ⟨e, w'', fr, k1, .of_steps h2 k2, k3⟩

theorem arun_ok {f : FuncId} {r : AV} {hp' : List (Nat × Box)} : ∀ (n : Nat) (rs : List RD) (k : List Item) (s : St) (acc acc' : List Prop) (k' : List Item) (s' : St), arun P n rs k s acc = some (acc', k', s') → Alls acc' →
    Alls acc ∧ (Ok P f hp₀ k' s' r hp' → Ok P f hp₀ k s r hp')
  | 0, rs, k, s, acc, acc', k', s', h, _ => by cases h
  | n + 1, rs, k, s, acc, acc', k', s', h, hp => by
    unfold arun at h
    cases hgh : isGh rs
    rotate_left
    · rw [hgh] at h; simp only [cond_true] at h
      split at h
      · rename_i g rs'
        split at h
        · rename_i s1 hs
          obtain ⟨h1, h2⟩ := arun_ok n _ _ _ _ _ _ _ h hp
          refine ⟨h1, fun ho w₀ G₀ G a w hr => ?_⟩
          unfold ghost at hs
          split at hs
          · obtain ⟨G', hr'⟩ := hr.freeze hs; exact h2 ho w₀ G₀ G' a w hr'
          · obtain ⟨G', hr'⟩ := hr.ownNil hs; exact h2 ho w₀ G₀ G' a w hr'
          · cases hs
        · cases h
      · cases h
    rw [hgh] at h; simp only [cond_false] at h
    split at h
    · obtain ⟨h1, h2⟩ := arun_ok n _ _ _ _ _ _ _ h hp
      exact ⟨h1, fun ho w₀ G₀ G a w hr => Ex.step (fun b cs => step_skip) (h2 ho w₀ G₀ G a w hr)⟩
    · obtain ⟨h1, h2⟩ := arun_ok n _ _ _ _ _ _ _ h hp
      exact ⟨h1, fun ho w₀ G₀ G a w hr => Ex.step (fun b cs => step_inBlock) (h2 ho w₀ G₀ G a w hr)⟩
    · obtain ⟨h1, h2⟩ := arun_ok n _ _ _ _ _ _ _ h hp
      exact ⟨h1, fun ho w₀ G₀ G a w hr => Ex.step (fun b cs => step_lone_go (by simp [stepG, stepG.exec, Frame.at])) (h2 ho w₀ G₀ G a w hr)⟩
    · obtain ⟨h1, h2⟩ := arun_ok n _ _ _ _ _ _ _ h hp
      exact ⟨h1, fun ho w₀ G₀ G a w hr => Ex.step (fun b cs => step_seq) (h2 ho w₀ G₀ G a w hr)⟩
    · split at h
      · split at h
        · rename_i c x y k1 _ t rs1 _ b hc
          obtain ⟨h1, h2⟩ := arun_ok n _ _ _ _ _ _ _ h hp
          refine ⟨h1.2, fun ho w₀ G₀ G a w hr => ?_⟩
          have hb : b = t := h1.1
          have hev := ev_ok hr hc
          simp only [Rep] at hev
          have h3 := h2 ho w₀ G₀ G a w hr
          refine Ex.step (fun fb cs => step_cond (t := b) hev) ?_
          subst hb
          cases b <;> exact h3
        · cases h
      · simp only [Option.some.injEq, Prod.mk.injEq] at h; obtain ⟨rfl, rfl, rfl⟩ := h
        exact ⟨hp, fun ho => ho⟩
    · obtain ⟨h1, h2⟩ := arun_ok n _ _ _ _ _ _ _ h hp
      exact ⟨h1, fun ho w₀ G₀ G a w hr => Ex.step (fun b cs => step_block) (h2 ho w₀ G₀ G a w hr)⟩
    · obtain ⟨h1, h2⟩ := arun_ok n _ _ _ _ _ _ _ h hp
      exact ⟨h1, fun ho w₀ G₀ G a w hr => Ex.step (fun b cs => step_loop) (h2 ho w₀ G₀ G a w hr)⟩
    · obtain ⟨h1, h2⟩ := arun_ok n _ _ _ _ _ _ _ h hp
      exact ⟨h1, fun ho w₀ G₀ G a w hr => Ex.step (fun b cs => step_inLoop) (h2 ho w₀ G₀ G a w hr)⟩
    · split at h
      · rename_i hk
        obtain ⟨h1, h2⟩ := arun_ok n _ _ _ _ _ _ _ h hp
        exact ⟨h1, fun ho w₀ G₀ G a w hr => Ex.step (fun b cs => step_exit hk) (h2 ho w₀ G₀ G a w hr)⟩
      · cases h
    · split at h
      · split at h
        · rename_i id ops k1 _ ds rs1 _ acc1 s1 hs
          obtain ⟨h1, h2⟩ := arun_ok n _ _ _ _ _ _ _ h hp
          obtain ⟨h3, _⟩ := aops_ok (P := P) (w₀ := default) (G₀ := ⟨fun _ _ => none, fun _ => none, fun _ => none⟩) (hp₀ := hp₀) (Q := fun _ _ _ => True) ops.toList 0 s acc acc1 s1 (fun j hj => by simp) hs h1
          refine ⟨h3, fun ho w₀ G₀ G a w hr => ?_⟩
          refine Ex.arrive (fun b cs => ?_)
          have hq := (aops_ok (P := P) (w₀ := w₀) (G₀ := G₀) (hp₀ := hp₀) (Q := fun e a' w' => match e with | .normal => Ex P f k1 a' w' (Post w₀ G₀ hp₀ r hp') | _ => False) ops.toList 0 s acc acc1 s1 (fun j hj => by simp) hs h1).2 G a w hr
            (fun G' a' w' hr' => h2 ho w₀ G₀ G' a' w' hr'.bump)
          have := wp_region (P := P) (id := id) (ops := ops) (a := a) (w := w) (by rw [List.range_eq_range']; simpa using hq)
          exact this b k1 cs
        · cases h
      · simp only [Option.some.injEq, Prod.mk.injEq] at h; obtain ⟨rfl, rfl, rfl⟩ := h
        exact ⟨hp, fun ho => ho⟩
    · split at h
      · split at h
        · rename_i id ops k1 _ hh ds rs1 _ acc1 s1 hs
          obtain ⟨h1, h2⟩ := arun_ok n _ _ _ _ _ _ _ h hp
          obtain ⟨h3, h4⟩ := adraw_ok hs h1
          refine ⟨h3, fun ho w₀ G₀ G a w hr => Ex.arrive (fun b cs => ?_)⟩
          exact h4 (fun e a' w' => match e with | .normal => Ex P f k1 a' w' (Post w₀ G₀ hp₀ r hp') | _ => False) w₀ G₀ hp₀ G a w id hr (fun G' a' w' hr' => h2 ho w₀ G₀ G' a' w' hr'.bump) b k1 cs
        · cases h
      · simp only [Option.some.injEq, Prod.mk.injEq] at h; obtain ⟨rfl, rfl, rfl⟩ := h
        exact ⟨hp, fun ho => ho⟩
    · simp only [Option.some.injEq, Prod.mk.injEq] at h; obtain ⟨rfl, rfl, rfl⟩ := h
      exact ⟨hp, fun ho => ho⟩
end
end Go.Sym
