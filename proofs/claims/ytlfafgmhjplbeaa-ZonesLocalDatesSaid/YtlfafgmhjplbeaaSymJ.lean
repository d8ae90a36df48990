/- Stores; one operation; a region in the order of the text; the machine. -/
import Derived.Test.YtlfafgmhjplbeaaSymI
namespace Go.Sym
open Go.RowKit

section
variable {P : Program} {w₀ : World} {G₀ : Gh} {hp₀ : List (Nat × Box)} {G : Gh} {s : St} {a : Act} {w : World}

/-- one piece of own memory has got other contents -/
theorem Fin.update {hp : List (Nat × Box)} (hf : Fin w₀ G₀ hp₀ G hp w) {n : Nat} {bx bx' : Box} {B : Nat} (hn : look hp n = some bx) (hB : G.at n bx = some B) (hB' : G.at n bx' = some B) {w' : World} (hw : Bel (fun b => b = B) w w')
    (hok : BoxOk G w' n bx') (hi : ∀ o, G.imm B o = none) : Fin w₀ G₀ hp₀ G (setHp hp n bx') w' := by
  have hblk : ∀ b, b < w.heap.size → b ≠ B → w'.heap[b]? = w.heap[b]? := fun b h1 h2 => hw.block b h1 h2
  have hlt : ∀ {b : Nat} {o : Obj}, w.heap[b]? = some o → b < w.heap.size := fun h => (Array.getElem?_eq_some_iff.1 h).1
  have hlk : ∀ m b, look (setHp hp n bx') m = some b → (m = n ∧ b = bx') ∨ (m ≠ n ∧ look hp m = some b) := fun m b h => by
    simp only [setHp, look] at h
    cases hb : Nat.beq n m
    · rw [hb] at h; exact .inr ⟨fun e => by subst e; simp at hb, h⟩
    · rw [hb] at h; simp only [cond_true, Option.some.injEq] at h; exact .inl ⟨(Nat.eq_of_beq_eq_true hb).symm, h.symm⟩
  have other : ∀ m b c, m ≠ n → look hp m = some b → G.at m b = some c → c ≠ B := fun m b c hm h1 h2 e => by
    subst e; exact hm (hf.mem.apart m n b bx c h1 hn h2 hB)
  refine ⟨⟨?_, hf.mem.one, ?_, ?_⟩, ?_, hf.imm_le, hf.imm_new, ?_, hf.keep⟩
  · intro b o v h
    have hne : b ≠ B := fun e => by subst e; rw [hi] at h; cases h
    have hc := hf.mem.agree b o v h
    have := World.block_lt_of_cell? _ _ hc
    rw [World.cell?_of_block (w := w) (hblk b this hne)]; exact hc
  · intro m b h
    rcases hlk m b h with ⟨rfl, rfl⟩ | ⟨hm, h⟩
    · exact hok
    · have hb := hf.mem.holds m b h
      have ho := other m b
      cases b with
      | cells cs T =>
        obtain ⟨B1, vs, h1, h2, h3, h4, h5⟩ := hb
        exact ⟨B1, vs, h1, by rw [hblk _ (hlt h2) (ho B1 hm h (by simp [Gh.at, h1]))]; exact h2, h3, h4, h5⟩
      | row sz enc l E =>
        obtain ⟨ad, c, h1, h2, h3⟩ := hb
        refine ⟨ad, c, h1, h2, ?_⟩
        rcases h3 with h3 | ⟨g, vs, fz, k1, k2, k3⟩
        · exact .inl h3
        · exact .inr ⟨g, vs, fz, k1, by rw [hblk _ (hlt k2) (ho g hm h (by subst k1; simp [Gh.at, h1]))]; exact k2, k3⟩
      | dead => trivial
  · intro m m' b b' c h1 h2 h3 h4
    rcases hlk m b h1 with ⟨rfl, rfl⟩ | ⟨hm, i1⟩ <;> rcases hlk m' b' h2 with ⟨rfl, rfl⟩ | ⟨hm', i2⟩
    · rfl
    · rw [hB'] at h3; injection h3 with h3; subst h3
      exact absurd rfl (other m' b' _ hm' i2 h4)
    · rw [hB'] at h4; injection h4 with h4; subst h4
      exact absurd rfl (other m b _ hm i1 h3)
    · exact hf.mem.apart m m' b b' c i1 i2 h3 h4
  · refine ⟨hw.os.trans hf.bel.os, hw.tape.trans hf.bel.tape, hw.output.trans hf.bel.output, Nat.le_trans hf.bel.size hw.size, fun k hk hS => ?_⟩
    have hne : k ≠ B := fun e => by
      subst e
      rcases hf.base n bx k hn hB with h | h
      · omega
      · exact hS h
    rw [hblk k (Nat.lt_of_lt_of_le hk hf.bel.size) hne]; exact hf.bel.block k hk hS
  · intro m b c h1 h2
    rcases hlk m b h1 with ⟨rfl, rfl⟩ | ⟨hm, h1⟩
    · rw [hB'] at h2; injection h2 with h2; subst h2
      exact hf.base _ _ _ hn hB
    · exact hf.base m b c h1 h2

theorem amod_ok (hr : Rel w₀ G₀ hp₀ G s a w) {o : Oper} {d : D} {ps : List Prop} {s' : St} (h : amod P s d o = some (ps, s')) (hp : Alls ps) {N : Act → World → Prop} {Q : Exit → Act → World → Prop} (hN : ∀ G' a' w', Rel w₀ G₀ hp₀ G' s' a' w' → N a' w') : o.wp P a w N Q := by
  obtain ⟨dst, op, ty, pos, after, guard⟩ := o
  unfold amod at h
  split at h
  · rename_i t x y ho
    simp only at ho; subst ho
    split at h
    · rename_i b off v n hx hy hn hd
      simp only at hd; subst hd
      split at h
      · rename_i cs T hb
        cases hq : Nat.beq v.cells.length n && AV.ones v.cells && Nat.ble (off + n) cs.length <;> rw [hq] at h <;> simp only [cond_true, cond_false, reduceCtorEq, Option.some.injEq, Prod.mk.injEq] at h
        obtain ⟨rfl, rfl⟩ := h
        simp only [Bool.and_eq_true, Nat.ble_eq] at hq
        obtain ⟨⟨hq1, hq2⟩, hq3⟩ := hq
        have hq1 := Nat.eq_of_beq_eq_true hq1
        obtain ⟨B, hB, hxe⟩ := ev_ok hr hx
        have hcy := (ev_ok hr hy).cells hq2
        obtain ⟨B', vs, h1, h2, h3, h4, h5⟩ := hr.fin.mem.holds _ _ hb
        rw [h1] at hB; injection hB with hB; subst hB
        have hlv : (a.eval y).cells.size = n := by rw [← hq1, hcy.length, Array.length_toList]
        have hlc : cs.length = vs.size := by rw [h3.length, Array.length_toList]
        obtain ⟨w', cur', k1, k2, k3, k4⟩ := run_storeCells' (P := P) B' off T (0, 0) (a.eval y).cells.toList 0 vs w h2 (by rw [Array.length_toList]; omega) (.inl rfl) (reps_ones hcy hq2)
        have hrun : (execOp a.eval ⟨none, .store t x y, ty, pos, after, guard⟩).run P w = .ok .skip w' := by
          simp [execOp, Instr.storeAt, hxe, Instr.sureAddr, storeVar, run_sizeOf' hn, hlv, k1]
        unfold Oper.wp
        rw [hrun]
        refine hN G _ _ ⟨hr.defers, hr.size, hr.frame, fun m hm hl => hr.fresh m hm ?_, ?_⟩
        · simp only [setHp, look] at hl
          cases hbq : Nat.beq b m
          · rw [hbq] at hl; exact hl
          · rw [hbq] at hl; cases hl
        · refine hr.fin.update hb (by simp [Gh.at, h1]) (by simp [Gh.at, h1]) k4 ⟨B', cur', h1, k2, ?_, ?_, h5⟩ h5
          · rw [k3]; exact reps_vsplice _ h3 hcy
          · intro u hu
            rw [k3] at hu
            rcases vsplice_mem _ _ _ _ hu with hu | hu
            · exact h4 u hu
            · exact reps_ones hcy hq2 u hu
      · cases h
    · rename_i k sz i off v n hx hy hn hd
      simp only at hd; subst hd
      split at h
      · rename_i sz0 α enc0 l0 E0 sz1 β enc l E hb
        cases hq : Nat.beq v.cells.length n && AV.ones v.cells && Nat.beq sz sz0 && Nat.beq sz1 sz0 && Nat.beq E E0 <;> rw [hq] at h <;> simp only [cond_true, cond_false, reduceCtorEq, Option.some.injEq, Prod.mk.injEq] at h
        obtain ⟨rfl, rfl⟩ := h
        simp only [Bool.and_eq_true] at hq
        obtain ⟨⟨⟨⟨hq1, hq2⟩, hq3⟩, hq4⟩, hq5⟩ := hq
        have hq1 := Nat.eq_of_beq_eq_true hq1
        have hq3 := Nat.eq_of_beq_eq_true hq3
        have hq4 := Nat.eq_of_beq_eq_true hq4
        have hq5 := Nat.eq_of_beq_eq_true hq5
        subst hq3 hq4 hq5
        simp only [Alls, and_true] at hp
        obtain ⟨p1, p2, p3, p4, p5⟩ := hp
        obtain ⟨B, n0, c0, ho0, hxe⟩ := ev_ok hr hx
        have hcy := (ev_ok hr hy).cells hq2
        have hlv : (a.eval y).cells.size = n := by rw [← hq1, hcy.length, Array.length_toList]
        obtain ⟨ad, c, h1, h2, h3⟩ := hr.fin.mem.holds _ _ hb
        rw [ho0] at h1; simp only [Option.some.injEq, Prod.mk.injEq] at h1
        obtain ⟨rfl, rfl, rfl⟩ := h1
        rcases h3 with ⟨h3, _⟩ | ⟨g, vs, fz, k1, k2, k3, k4, k5, k6, k7, k8, k9⟩
        · cases h3
        · simp only [Option.some.injEq, Addr.mk.injEq, and_true, true_and] at k1
          subst k1
          have hle : l0.length * sz1 ≤ vs.size := by rw [k6]; exact Nat.mul_le_mul_right _ k4
          obtain ⟨w', cur', m1, m2, m3, m4⟩ := run_storeCells' (P := P) B (i * sz1 + off) E fz (a.eval y).cells.toList 0 vs w k2 (by rw [Array.length_toList]; omega) k3 (reps_ones hcy hq2)
          have hrun : (execOp a.eval ⟨none, .store t x y, ty, pos, after, guard⟩).run P w = .ok .skip w' := by
            simp [execOp, Instr.storeAt, hxe, Instr.sureAddr, storeVar, run_sizeOf' hn, hlv, m1]
          unfold Oper.wp
          rw [hrun]
          have hcs : cur'.size = vs.size := by rw [← Array.length_toList, m3, vsplice_length, Array.length_toList]
          refine hN G _ _ ⟨hr.defers, hr.size, hr.frame, fun m hm hl => hr.fresh m hm ?_, ?_⟩
          · simp only [setHp, look] at hl
            cases hbq : Nat.beq k m
            · rw [hbq] at hl; exact hl
            · rw [hbq] at hl; cases hl
          · refine hr.fin.update hb (B := B) (by simp [Gh.at, ho0]) (by simp [Gh.at, ho0]) m4 ⟨some ⟨B, 0, none⟩, c0, by rw [p3]; exact ho0, p4, .inr ⟨B, cur', fz, rfl, m2, by rw [hcs]; exact k3, by rw [p3]; exact k4, k5, by rw [hcs]; exact k6, ?_, ?_, k9⟩⟩ k9
            · rw [p3, p2, m3, Nat.add_zero, vsplice_take_comm _ _ _ _ (by rw [Array.length_toList]; omega)]
              exact reps_vsplice _ k7 (reps_nameless p5 hcy)
            · intro u hu
              rw [m3] at hu
              rcases vsplice_mem _ _ _ _ hu with hu | hu
              · exact k8 u hu
              · exact reps_ones hcy hq2 u hu
      · cases h
    · cases h
  · rename_i args argTypes ho
    simp only at ho; subst ho
    split at h
    · rename_i x y t t2 tt ha hty hd
      simp only at hd; subst hd
      split at h
      · rename_i k v hx hy
        split at h
        · rename_i sz0 α enc0 l0 E0 hb
          split at h
          · rename_i ps' sz β enc l E happ
            cases hq : noRange (s.nx + 16 * tt) s.hp && Nat.beq sz sz0 && Nat.beq E E0 && Nat.blt tt s.n <;> rw [hq] at h <;> simp only [cond_true, cond_false, reduceCtorEq, Option.some.injEq, Prod.mk.injEq] at h
            obtain ⟨rfl, rfl⟩ := h
            simp only [Bool.and_eq_true, Nat.blt_eq] at hq
            obtain ⟨⟨⟨hq1, hq2⟩, hq3⟩, hq4⟩ := hq
            have hq2 := Nat.eq_of_beq_eq_true hq2
            have hq3 := Nat.eq_of_beq_eq_true hq3
            have e1 : args = #[x, y] := by rw [← Array.toArray_toList (xs := args), ha]
            have e2 : argTypes = #[t, t2] := by rw [← Array.toArray_toList (xs := argTypes), hty]
            subst e1 e2
            obtain ⟨ad, c, us, h1, h2, h3, h4, h5⟩ := (hr.fin.mem.holds _ _ hb).rowAt
            obtain ⟨ad0, n0, c0, ho0, hxe⟩ := ev_ok hr hx
            rw [h1] at ho0; simp only [Option.some.injEq, Prod.mk.injEq] at ho0
            obtain ⟨rfl, rfl, rfl⟩ := ho0
            obtain ⟨sz', β', enc', l', E', hbx, he, _, hgo⟩ := aAppend_run hr (ty := ty) (sz0 := 0) (E0 := 0) (ad := ad) (c := c) happ hp (ev_ok hr hy) h4
            cases hbx
            subst hq2 hq3
            obtain ⟨ad', c', us', w', r1, r2, r3, r4, r5⟩ := hgo h3
            have hrun : (execOp a.eval ⟨some tt, .call { callee := .builtin .append, args := #[x, y], argTypes := #[t, t2] }, ty, pos, after, guard⟩).run P w = .ok (.value (.slice ad' l.length c')) w' := by
              simp [execOp, resolve, invoke, builtin, hxe, r1]
            unfold Oper.wp
            rw [hrun]
            have hk' := noRange_look hq1 (s.nx + 16 * tt) (Nat.le_refl _) (by omega)
            obtain ⟨f1, f2⟩ := hr.fresh _ (by omega) hk'
            have hfin := hr.fin.take hb h1 hk' f2 h5 r5 r4 he r2 r3
            have hle : G.le (G.addOwn (s.nx + 16 * tt) (ad', l.length, c')) := Gh.addOwn_le f2
            refine hN _ _ _ ⟨hr.defers, by simp [Act.put, hr.size], fun i z hz => ?_, fun m hm hl => ?_, hfin⟩
            · simp only [look] at hz
              cases hbq : Nat.beq tt i
              · rw [hbq] at hz; simp only [cond_false] at hz
                have hne : tt ≠ i := fun e => by subst e; simp at hbq
                obtain ⟨u, u1, u2⟩ := hr.frame i z hz
                exact ⟨u, by simp [Act.put, Array.getElem?_setIfInBounds, hne, u1], u2.le hle⟩
              · rw [hbq] at hz; simp only [cond_true, Option.some.injEq] at hz; subst hz
                have := Nat.eq_of_beq_eq_true hbq; subst this
                exact ⟨_, by simp [Act.put, hr.size, hq4], ad', l.length, c', Gh.addOwn_self, rfl⟩
            · simp only [look] at hl
              cases hbq : Nat.beq (s.nx + 16 * tt) m
              · rw [hbq] at hl; simp only [cond_false] at hl
                cases hbk : Nat.beq k m
                · rw [hbk] at hl
                  obtain ⟨g1, g2⟩ := hr.fresh m hm hl
                  refine ⟨g1, ?_⟩
                  show (bif Nat.beq m (s.nx + 16 * tt) then some _ else G.own m) = none
                  cases hbm : Nat.beq m (s.nx + 16 * tt)
                  · exact g2
                  · have := Nat.eq_of_beq_eq_true hbm; subst this; simp at hbq
                · rw [hbk] at hl; cases hl
              · rw [hbq] at hl; cases hl
          · cases h
        · cases h
      · cases h
    · cases h
  · rename_i g args tys ho
    simp only at ho; subst ho
    split at h
    · rename_i f x b hg ha
      split at h
      · rename_i k hx
        split at h
        · rename_i sz0 α enc0 l0 E0 hb
          split at h
          · rename_i s1 hs
            simp only [Option.some.injEq, Prod.mk.injEq] at h
            obtain ⟨rfl, rfl⟩ := h
            simp only [Alls, and_true] at hp
            obtain ⟨hpl, hin⟩ := hp
            have e1 : args = #[x] := by rw [← Array.toArray_toList (xs := args), ha]
            subst e1
            cases b with
            | cells _ _ => exact hin.elim
            | dead => exact hin.elim
            | row sz' enc' l' E' =>
              obtain ⟨rfl, rfl, i3, i4, i5⟩ := hin
              obtain ⟨ad, c, us, h1, h2, h3, h4, h5⟩ := (hr.fin.mem.holds _ _ hb).rowAt
              obtain ⟨ad0, n0, c0, ho0, hxe⟩ := ev_ok hr hx
              rw [h1] at ho0; simp only [Option.some.injEq, Prod.mk.injEq] at ho0
              obtain ⟨rfl, rfl, rfl⟩ := ho0
              obtain ⟨fs, cs, hge, hfs, hcs⟩ := ev_ok hr hg
              have hfs0 : fs = #[] := Array.eq_empty_of_size_eq_zero (by simpa using hfs.length.symm)
              have hcs0 : cs = #[] := Array.eq_empty_of_size_eq_zero (by simpa using hcs.length.symm)
              subst hfs0 hcs0
              have hrun : (execOp a.eval ⟨dst, .call { callee := .value g, args := #[x], argTypes := tys }, ty, pos, after, guard⟩).run P w = .ok (.enter f #[.slice ad l0.length c]) w := by
                simp [execOp, resolve, hge, Deferred.ofValue, invoke, hpl _ w, hxe]
              unfold Oper.wp
              rw [hrun]
              refine (i5 w G ad c us h3 h4).mono ?_
              rintro e w' ⟨rfl, us', r1, r2, r3⟩
              show N _ _
              have hok : BoxOk G w' k (.row sz' enc' l' E') := BoxOk.row (by rw [i3]; exact h1) i4 (by rw [i3]; exact r1) r2 h5
              have hfin : Fin w₀ G₀ hp₀ G (setHp s.hp k (.row sz' enc' l' E')) w' := by
                cases hbk : blkOf ad with
                | some B =>
                  have ha1 : ∀ (β : Type) (en : β → List AV) (ll : List β), G.at k (.row sz' en ll E') = some B := fun β en ll => by
                    simp only [Gh.at, h1]; cases ad with | none => cases hbk | some x => exact hbk
                  exact hr.fin.update hb (ha1 _ _ _) (ha1 _ _ _) ⟨r3.os, r3.tape, r3.output, r3.size, fun j hj hne => r3.block j hj (fun e => hne (by rw [hbk] at e; injection e with e; exact e.symm))⟩ hok (h5 B hbk)
                | none =>
                  have hst : Still w w' := ⟨r3.os, r3.tape, r3.output, r3.size, fun j hj _ => r3.block j hj (by rw [hbk]; simp)⟩
                  have hf2 := hr.fin.extend (new := []) (Gh.le.refl G) hst (fun _ _ _ h => .inl h) (fun b o v h => by
                    rw [World.cell?_of_block (w := w) (hst.block b (imm_lt hr h) (fun h => h))]; exact hr.fin.mem.agree _ _ _ h) hr.fin.mem.one (fun n bx h => by cases h) (fun n bx h => by cases h) (fun n m bx bx' b h => by cases h)
                  have hat : ∀ bx : Box, (∃ (β : Type) (en : β → List AV) (ll : List β), bx = .row sz' en ll E') → G.at k bx = none := fun bx ⟨β, en, ll, e⟩ => by
                    subst e; simp only [Gh.at, h1]; cases ad with | none => rfl | some x => cases hbk
                  have hlk : ∀ m bx, look (setHp s.hp k (.row sz' enc' l' E')) m = some bx → (m = k ∧ bx = .row sz' enc' l' E') ∨ (m ≠ k ∧ look s.hp m = some bx) := fun m bx h => by
                    simp only [setHp, look] at h
                    cases hq : Nat.beq k m
                    · rw [hq] at h; exact .inr ⟨fun e => by subst e; simp at hq, h⟩
                    · rw [hq] at h; simp only [cond_true, Option.some.injEq] at h; exact .inl ⟨(Nat.eq_of_beq_eq_true hq).symm, h.symm⟩
                  refine ⟨⟨hf2.mem.agree, hf2.mem.one, fun m bx h => ?_, fun m m' bx bx' b q1 q2 q3 q4 => ?_⟩, hf2.bel, hf2.imm_le, hf2.imm_new, fun m bx b q1 q2 => ?_, hf2.keep⟩
                  · rcases hlk m bx h with ⟨rfl, rfl⟩ | ⟨_, h⟩
                    · exact hok
                    · exact hf2.mem.holds m bx h
                  · rcases hlk m bx q1 with ⟨rfl, rfl⟩ | ⟨_, q1⟩
                    · rw [hat _ ⟨_, _, _, rfl⟩] at q3; cases q3
                    · rcases hlk m' bx' q2 with ⟨rfl, rfl⟩ | ⟨_, q2⟩
                      · rw [hat _ ⟨_, _, _, rfl⟩] at q4; cases q4
                      · exact hf2.mem.apart m m' bx bx' b q1 q2 q3 q4
                  · rcases hlk m bx q1 with ⟨rfl, rfl⟩ | ⟨_, q1⟩
                    · rw [hat _ ⟨_, _, _, rfl⟩] at q2; cases q2
                    · exact hf2.base m bx b q1 q2
              have hlkn : ∀ m, look (setHp s.hp k (.row sz' enc' l' E')) m = none → look s.hp m = none := fun m h => by
                simp only [setHp, look] at h
                cases hq : Nat.beq k m
                · rw [hq] at h; exact h
                · rw [hq] at h; cases h
              have hr1 := aval_rel (u := .tuple #[]) hr hs rfl
              have hn1 : s1.nx = s.nx ∧ s1.hp = s.hp := by
                cases dst with
                | none => simp only [St.add, Option.some.injEq] at hs; subst hs; exact ⟨rfl, rfl⟩
                | some d =>
                  simp only [St.add] at hs
                  cases hq : Nat.blt d s.n <;> rw [hq] at hs <;> simp only [cond_true, cond_false, reduceCtorEq, Option.some.injEq] at hs
                  subst hs; exact ⟨rfl, rfl⟩
              refine hN G _ _ ⟨hr1.defers, hr1.size, hr1.frame, fun m hm hl => hr.fresh m (by rw [← hn1.1]; exact hm) (hlkn m hl), hfin⟩
          · cases h
        · cases h
      · cases h
    · cases h
  · cases h
end
end Go.Sym
