/- The operations that leave memory as it is: what the abstract machine says of them is so. -/
import Derived.Test.YtlfafgmhjplbeaaSymC
namespace Go.Sym
open Go.RowKit

theorem toNat_ofNat8 (n : Nat) (h : n < 256) : (UInt8.ofNat n).toNat = n := by simp [UInt8.toNat_ofNat']; omega

theorem rep_ofVal (G : Gh) (c : Value) : Rep (ofVal c) G c := by
  cases c with
  | int k n =>
    cases k <;> try rfl
    simp only [ofVal]
    by_cases h : decide (0 ≤ n) && decide (n < 256)
    · rw [h]; simp only [Bool.and_eq_true, decide_eq_true_eq] at h
      simp only [cond_true, Rep]
      rw [toNat_ofNat8 _ (by omega)]
      congr 1; omega
    · simp only [Bool.not_eq_true] at h; rw [h]; rfl
  | string s => simp only [ofVal, Rep]
  | _ => rfl
theorem reps_ofVals (G : Gh) : ∀ (l : List Value), Reps (ofVals l) G l
  | [] => trivial
  | v :: vs => ⟨rep_ofVal G v, reps_ofVals G vs⟩

theorem rep_one {G : Gh} {x : AV} {v : Value} (h : Rep x G v) (hx : x.one' = true) : v.oneCell' = true := by
  cases x <;> simp only [AV.one', Bool.false_eq_true] at hx <;> simp only [Rep] at h
  case int => subst h; rfl
  case byte => subst h; rfl
  case bool => subst h; rfl
  case str => subst h; rfl
  case sl => obtain ⟨_, _, h, _⟩ := h; subst h; rfl
  case ptr => obtain ⟨_, _, h⟩ := h; subst h; rfl
  case rop => obtain ⟨_, _, h, _⟩ := h; subst h; rfl
  case own => obtain ⟨_, _, _, _, h⟩ := h; subst h; rfl
  case oel => obtain ⟨_, _, _, _, h⟩ := h; subst h; rfl
  case val u => subst h; cases v <;> first | rfl | cases hx
  case fn => obtain ⟨_, _, h, _⟩ := h; subst h; rfl
  case iface => obtain ⟨_, h, _⟩ := h; subst h; rfl
theorem reps_ones {G : Gh} : ∀ {xs : List AV} {vs : List Value}, Reps xs G vs → AV.ones xs = true → ∀ v ∈ vs, v.oneCell' = true
  | [], [], _, _ => by simp
  | x :: xs, v :: vs, h, ho => by
    simp only [AV.ones, Bool.and_eq_true] at ho
    intro u hu
    rcases List.mem_cons.1 hu with rfl | hu
    · exact rep_one h.1 ho.1
    · exact reps_ones h.2 ho.2 u hu
  | [], _ :: _, h, _ => h.elim
  | _ :: _, [], h, _ => h.elim
theorem reps_get {G : Gh} : ∀ {xs : List AV} {vs : List Value}, Reps xs G vs → ∀ {i : Nat} {x : AV}, xs[i]? = some x → ∃ v, vs[i]? = some v ∧ Rep x G v
  | [], [], _, i, x, hx => by simp at hx
  | x :: xs, v :: vs, h, i, y, hy => by
    cases i with
    | zero => simp at hy; subst hy; exact ⟨v, rfl, h.1⟩
    | succ i => simp only [List.getElem?_cons_succ] at hy ⊢; exact reps_get h.2 hy
  | [], _ :: _, h, _, _, _ => h.elim
  | _ :: _, [], h, _, _, _ => h.elim
theorem reps_take {G : Gh} : ∀ {xs : List AV} {vs : List Value} (n : Nat), Reps xs G vs → Reps (xs.take n) G (vs.take n)
  | _, _, 0, _ => by simp [Reps]
  | [], [], n + 1, _ => by simp [Reps]
  | x :: xs, v :: vs, n + 1, h => ⟨h.1, reps_take n h.2⟩
  | [], _ :: _, _ + 1, h => h.elim
  | _ :: _, [], _ + 1, h => h.elim
theorem reps_drop {G : Gh} : ∀ {xs : List AV} {vs : List Value} (n : Nat), Reps xs G vs → Reps (xs.drop n) G (vs.drop n)
  | _, _, 0, h => h
  | [], [], n + 1, _ => by simp [Reps]
  | x :: xs, v :: vs, n + 1, h => reps_drop (xs := xs) (vs := vs) n h.2
  | [], _ :: _, _ + 1, h => h.elim
  | _ :: _, [], _ + 1, h => h.elim
theorem reps_append {G : Gh} : ∀ {xs ys : List AV} {vs us : List Value}, Reps xs G vs → Reps ys G us → Reps (xs ++ ys) G (vs ++ us)
  | [], _, [], _, _, h => h
  | x :: xs, _, v :: vs, _, h, k => ⟨h.1, reps_append h.2 k⟩
  | [], _, _ :: _, _, h, _ => h.elim
  | _ :: _, _, [], _, h, _ => h.elim
theorem reps_set {G : Gh} : ∀ {xs : List AV} {vs : List Value} {x : AV} {v : Value} (i : Nat), Reps xs G vs → Rep x G v → Reps (xs.set i x) G (vs.set i v)
  | [], [], _, _, _, _, _ => by simp [Reps]
  | _ :: _, _ :: _, _, _, 0, h, hx => ⟨hx, h.2⟩
  | _ :: _, _ :: _, _, _, i + 1, h, hx => ⟨h.1, reps_set i h.2 hx⟩
  | [], _ :: _, _, _, _, h, _ => h.elim
  | _ :: _, [], _, _, _, h, _ => h.elim
theorem Rep.le {x : AV} {G G' : Gh} {v : Value} (h : Rep x G v) (hle : G.le G') : Rep x G' v := by
  have := Rep.ren (ρ := some) (x := x) hle.imm (fun n n' B e h => by injection e with e; subst e; exact hle.box _ _ h) (fun n n' B e h => by injection e with e; subst e; exact hle.own _ _ h) h
  rwa [AV.ren_some] at this
theorem Reps.le {x : List AV} {G G' : Gh} {v : List Value} (h : Reps x G v) (hle : G.le G') : Reps x G' v := by
  have := Reps.ren (ρ := some) (xs := x) hle.imm (fun n n' B e h => by injection e with e; subst e; exact hle.box _ _ h) (fun n n' B e h => by injection e with e; subst e; exact hle.own _ _ h) h
  rwa [AV.rens_some] at this

section
variable {P : Program} {w₀ : World} {G₀ : Gh} {hp₀ : List (Nat × Box)} {G : Gh} {s : St} {a : Act} {w : World}

theorem ev_ok (hr : Rel w₀ G₀ hp₀ G s a w) {x : Operand} {v : AV} (h : s.ev x = some v) : Rep v G (a.eval x) := by
  cases x with
  | tmp t =>
    obtain ⟨u, h1, h2⟩ := hr.frame t v h
    have : a.eval (.tmp t) = u := by simp [Act.eval, Array.getD_eq_getD_getElem?, h1]
    rw [this]; exact h2
  | const c => simp only [St.ev, Option.some.injEq] at h; subst h; exact rep_ofVal G c
  | func f => simp only [St.ev, Option.some.injEq] at h; subst h; exact ⟨#[], #[], rfl, trivial, trivial⟩
  | global g => cases h
theorem evs_ok (hr : Rel w₀ G₀ hp₀ G s a w) : ∀ {xs : List Operand} {vs : List AV}, s.evs xs = some vs → Reps vs G (xs.map a.eval)
  | [], vs, h => by simp only [St.evs, Option.some.injEq] at h; subst h; trivial
  | x :: xs, vs, h => by
    simp only [St.evs] at h
    split at h
    · cases h
    · rename_i v hv
      split at h
      · cases h
      · rename_i us hus
        simp only [Option.some.injEq] at h; subst h
        exact ⟨ev_ok hr hv, evs_ok hr hus⟩

/-- the operation leaves the world as it is and yields what v says -/
def ValOk (P : Program) (G : Gh) (a : Act) (w : World) (o : Oper) (v : AV) : Prop := ∃ u, (execOp a.eval o).run P w = .ok (.value u) w ∧ Rep v G u

theorem run_underlying' {t : TypeId} {d : TypeDesc} (h : P.underlying t = some d) (w : World) : (underlying t).run P w = .ok d w := by
  simp [underlying, h]
theorem run_typeInfo' {t : TypeId} {d : TypeInfo} (h : P.info? t = some d) (w : World) : (typeInfo t).run P w = .ok d w := by
  simp [typeInfo, h]
theorem run_sizeOf' {t : TypeId} {n : Nat} (h : tSize P t = some n) (w : World) : (Go.sizeOf t).run P w = .ok n w := by
  unfold tSize at h
  cases hi : P.info? t with
  | none => rw [hi] at h; cases h
  | some i => rw [hi] at h; simp at h; subst h; simp [Go.sizeOf, run_typeInfo' hi]
theorem run_isAgg' {t : TypeId} {b : Bool} (h : tAgg P t = some b) (w : World) : (isAgg t).run P w = .ok b w := by
  unfold tAgg at h
  split at h <;> simp at h <;> subst h
  · rename_i hu; simp [isAgg, run_underlying' hu]
  · rename_i hu; simp [isAgg, run_underlying' hu]
  · rename_i d h1 h2 hu
    simp [isAgg, run_underlying' hu]
theorem run_zero' {t : TypeId} {cs : List AV} (h : tZero P t = some cs) (w : World) (G : Gh) : ∃ z, (zeroValue t).run P w = .ok z w ∧ Reps cs G z.cells.toList := by
  unfold tZero at h
  split at h
  · rename_i i hi
    split at h
    · rename_i z hz
      simp at h; subst h
      exact ⟨z, by simp [zeroValue, run_typeInfo' hi, hz], reps_ofVals G _⟩
    · cases h
  · cases h

theorem run_loadCellsFrom (b o : Nat) : ∀ (vs : List Value) (i : Nat) (acc : Array Value), (∀ j v, vs[j]? = some v → w.cell? ⟨b, o + i + j, none⟩ = some v) →
    (loadCellsFrom ⟨b, o, none⟩ i vs.length acc).run P w = .ok (acc ++ vs.toArray) w
  | [], i, acc, _ => by simp [loadCellsFrom]
  | v :: vs, i, acc, h => by
    have h0 := h 0 v rfl
    have ha : (Addr.add ⟨b, o, none⟩ i) = ⟨b, o + i, none⟩ := by unfold Addr.add; split <;> simp_all
    rw [List.length_cons, loadCellsFrom]
    have hl : (load (Addr.add ⟨b, o, none⟩ i)).run P w = .ok v w := by
      rw [ha]; simp [load, Sem.run]; rw [show o + i = o + i + 0 by rfl, h0]
    simp only [Sem.run_bind, hl, Result.andThen_ok]
    rw [run_loadCellsFrom b o vs (i + 1) (acc.push v) (fun j u hu => by have := h (j + 1) u (by simpa using hu); rw [← this]; congr 2; omega)]
    simp
theorem cell_of_heap {B i : Nat} {vs : Array Value} {T : TypeId} {fz : Nat × Nat} {v : Value} (h : w.heap[B]? = some (.cells vs T fz)) (hv : vs.toList[i]? = some v) : w.cell? ⟨B, i, none⟩ = some v := by
  simp [World.cell?, h]; simpa using hv
/-- a variable that lies in known cells is read -/
theorem run_loadVar' {t : TypeId} {cs : List AV} {off : Nat} {v : AV} (h : aload P t cs off = some v) {B o : Nat} {vs : List Value} (hv : Reps cs G vs) (hc : ∀ j u, vs[j]? = some u → w.cell? ⟨B, o + j, none⟩ = some u) :
    ∃ u, (loadVar t ⟨B, o + off, none⟩).run P w = .ok u w ∧ Rep v G u := by
  unfold aload at h
  split at h
  · rename_i ha
    split at h
    · rename_i n hn
      cases hb : Nat.ble (off + n) cs.length
      · rw [hb] at h; cases h
      · rw [hb] at h; simp only [cond_true, Option.some.injEq] at h; subst h
        have hle : off + n ≤ cs.length := by simpa using hb
        have hlen := hv.length
        have hvs : ((vs.drop off).take n).length = n := by simp; omega
        refine ⟨.agg ((vs.drop off).take n).toArray, ?_, _, rfl, by simpa using reps_take n (reps_drop off hv)⟩
        have := run_loadCellsFrom (P := P) (w := w) B (o + off) ((vs.drop off).take n) 0 #[] (fun j u hu => by
          rw [List.getElem?_take] at hu
          split at hu
          · rw [List.getElem?_drop] at hu
            rw [show o + off + 0 + j = o + (off + j) by omega]; exact hc _ _ hu
          · cases hu)
        rw [hvs] at this
        simp [loadVar, run_isAgg' ha, run_sizeOf' hn, loadCells, this]
    · cases h
  · rename_i ha
    obtain ⟨u, hu, hru⟩ := reps_get hv h
    refine ⟨u, ?_, hru⟩
    simp [loadVar, run_isAgg' ha, load, Sem.run, hc _ _ hu]
  · cases h

theorem Gh.data_le_self (G : Gh) : G.data.le G := ⟨fun _ _ _ h => h, fun _ _ h => (by cases h), fun _ _ h => (by cases h)⟩
theorem RepCells.values : ∀ {xs : List AV} {b o : Nat}, RepCells xs G b o → ∃ vs : List Value, Reps xs G vs ∧ ∀ j u, vs[j]? = some u → G.imm b (o + j) = some u
  | [], _, _, _ => ⟨[], trivial, fun j u h => by simp at h⟩
  | x :: xs, b, o, ⟨⟨u, h1, h2⟩, h3⟩ => by
    obtain ⟨vs, k1, k2⟩ := RepCells.values h3
    refine ⟨u :: vs, ⟨h2.le (Gh.data_le_self G), k1⟩, fun j v hv => ?_⟩
    cases j with
    | zero => simp at hv; subst hv; exact h1
    | succ j => simp at hv; rw [show o + (j + 1) = o + 1 + j by omega]; exact k2 j v hv
theorem RepCells.drop : ∀ {xs : List AV} {b o : Nat} (n : Nat), n ≤ xs.length → RepCells xs G b o → RepCells (xs.drop n) G b (o + n)
  | _, _, _, 0, _, h => h
  | [], _, _, n + 1, h, _ => by simp at h
  | x :: xs, b, o, n + 1, hn, ⟨_, h3⟩ => by
    rw [show o + (n + 1) = o + 1 + n by omega]; exact RepCells.drop n (by simpa using hn) h3

theorem flatMap_drop {α : Type} {enc : α → List AV} {sz : Nat} : ∀ {l : List α} {i : Nat} {x : α}, (∀ y ∈ l, (enc y).length = sz) → l[i]? = some x → ((l.flatMap enc).drop (i * sz)).take sz = enc x
  | [], i, x, _, h => by simp at h
  | y :: l, 0, x, hl, h => by
    simp at h; subst h
    rw [List.flatMap_cons, Nat.zero_mul, List.drop_zero, ← hl y List.mem_cons_self, List.take_left]
  | y :: l, i + 1, x, hl, h => by
    have := flatMap_drop (l := l) (i := i) (x := x) (fun z hz => hl z (List.mem_cons_of_mem _ hz)) (by simpa using h)
    rw [List.flatMap_cons, Nat.add_mul, Nat.one_mul, Nat.add_comm, ← List.drop_drop, ← hl y List.mem_cons_self, List.drop_left]
    rw [hl y List.mem_cons_self]; exact this
theorem aLoad_ok (hr : Rel w₀ G₀ hp₀ G s a w) {t : TypeId} {x : Operand} {d : D} {ps : List Prop} {v : AV} (h : aLoad P s t x d = some (ps, v)) (hp : Alls ps) : ∃ u, (Instr.loadAt t (a.eval x)).run P w = .ok u w ∧ Rep v G u := by
  unfold aLoad at h
  split at h
  · rename_i b off hx
    have hx := ev_ok hr hx
    obtain ⟨B, hB, hxe⟩ := hx
    split at h
    · rename_i cs T hb
      split at h
      · rename_i v' hl
        simp only [Option.some.injEq, Prod.mk.injEq] at h
        obtain ⟨_, rfl⟩ := h
        obtain ⟨B', vs, h1, h2, h3, _⟩ := hr.fin.mem.holds _ _ hb
        rw [h1] at hB; injection hB with hB; subst hB
        obtain ⟨u, hu, hru⟩ := run_loadVar' (P := P) (w := w) hl (o := 0) h3 (fun j u hu => by rw [Nat.zero_add]; exact cell_of_heap h2 hu)
        rw [Nat.zero_add] at hu
        exact ⟨u, by rw [hxe]; simp [Instr.loadAt, Instr.sureAddr, hu], hru⟩
      · cases h
    · cases h
  · rename_i cs hx
    obtain ⟨b, o, hxe, hc⟩ := ev_ok hr hx
    split at h
    · rename_i v' hl
      simp only [Option.some.injEq, Prod.mk.injEq] at h
      obtain ⟨_, rfl⟩ := h
      obtain ⟨vs, h1, h2⟩ := hc.values
      obtain ⟨u, hu, hru⟩ := run_loadVar' (P := P) (w := w) hl (o := o) h1 (fun j u hu => hr.fin.mem.agree _ _ _ (h2 j u hu))
      exact ⟨u, by rw [hxe]; simpa [Instr.loadAt, Instr.sureAddr] using hu, hru⟩
    · cases h
  · rename_i k sz i off hx
    obtain ⟨b, n, c, ho, hxe⟩ := ev_ok hr hx
    split at h
    · rename_i sz' α enc l E cs hb
      cases hq : Nat.beq sz sz' <;> rw [hq] at h <;> simp only [cond_true, cond_false, reduceCtorEq] at h
      have hq := Nat.eq_of_beq_eq_true hq
      subst hq
      split at h
      · rename_i v' hl
        simp only [Option.some.injEq, Prod.mk.injEq] at h
        obtain ⟨rfl, rfl⟩ := h
        simp only [Alls, and_true] at hp
        obtain ⟨x0, hx0, rfl⟩ := hp
        obtain ⟨ad, c', h1, h2, h3⟩ := hr.fin.mem.holds _ _ hb
        rw [ho] at h1; simp only [Option.some.injEq, Prod.mk.injEq] at h1
        obtain ⟨rfl, rfl, rfl⟩ := h1
        rcases h3 with ⟨h3, _⟩ | ⟨g, vs, fz, k1, k2, k3, k4, k5, k6, k7, k8, k9⟩
        · cases h3
        · simp only [Option.some.injEq, Addr.mk.injEq, and_true, true_and] at k1
          subst k1
          have hr1 := reps_take sz (reps_drop (i * sz) k7)
          rw [flatMap_drop h2 hx0] at hr1
          obtain ⟨u, hu, hru⟩ := run_loadVar' (P := P) (w := w) hl (o := i * sz) hr1 (fun j u hu => by
            rw [List.getElem?_take] at hu
            split at hu
            · rw [List.getElem?_drop, List.getElem?_take] at hu
              split at hu
              · exact cell_of_heap k2 hu
              · cases hu
            · cases hu)
          exact ⟨u, by rw [hxe]; simpa [Instr.loadAt, Instr.sureAddr] using hu, hru.le (Gh.data_le_self G)⟩
      · cases h
    · cases h
  · cases h

theorem wrap_byte (k : IntKind) (h8 : k ≠ .i8) (c : UInt8) : k.wrap (c.toNat : Int) = c.toNat := by
  have := c.toNat_lt
  cases k <;> simp [IntKind.wrap, IntKind.bits, IntKind.signed] at * <;> omega
theorem wrap_u8 (n : Int) : IntKind.u8.wrap n = ((toU8 n).toNat : Int) := by
  have h1 : (n % 256).toNat < 256 := by omega
  unfold toU8
  rw [toNat_ofNat8 _ h1]
  simp [IntKind.wrap, IntKind.bits, IntKind.signed]; omega

theorem aConv_ok {src dst : TypeId} {x : AV} {c : Value} {ps : List Prop} {v : AV} (hs : P.underlying src ≠ none) (hx : Rep x G c) (h : aConv P dst x = some (ps, v)) : ∃ u, (convert src dst c).run P w = .ok u w ∧ Rep v G u := by
  obtain ⟨sd, hs⟩ := Option.ne_none_iff_exists'.1 hs
  unfold aConv at h
  split at h
  · rename_i k j n hd
    simp only [Rep] at hx; subst hx
    cases hk : decide (k = .u8) <;> rw [hk] at h <;> simp only [cond_true, cond_false, Option.some.injEq, Prod.mk.injEq] at h <;> obtain ⟨_, rfl⟩ := h
    · exact ⟨_, by simp [convert, run_underlying' hs, run_underlying' hd, Conv.intToInt], rfl⟩
    · have hk' : k = .u8 := by simpa using hk
      subst hk'
      exact ⟨.int .u8 (IntKind.u8.wrap n), by simp [convert, run_underlying' hs, run_underlying' hd, Conv.intToInt], by simp only [Rep]; rw [wrap_u8]⟩
  · rename_i k c' hd
    simp only [Rep] at hx; subst hx
    cases hk : decide (k = .u8) <;> rw [hk] at h <;> simp only [cond_true, cond_false] at h
    · cases hk2 : decide (k = .i8) <;> rw [hk2] at h <;> simp only [cond_true, cond_false] at h
      · simp only [Option.some.injEq, Prod.mk.injEq] at h
        obtain ⟨_, rfl⟩ := h
        refine ⟨.int k (k.wrap c'.toNat), by simp [convert, run_underlying' hs, run_underlying' hd, Conv.intToInt], ?_⟩
        simp only [Rep]; rw [wrap_byte _ (by simpa using hk2)]
      · cases h
    · simp only [Option.some.injEq, Prod.mk.injEq] at h
      obtain ⟨_, rfl⟩ := h
      have hk' : k = .u8 := by simpa using hk
      subst hk'
      refine ⟨.int .u8 (IntKind.u8.wrap c'.toNat), by simp [convert, run_underlying' hs, run_underlying' hd, Conv.intToInt], ?_⟩
      simp only [Rep]; rw [wrap_byte _ (by simp)]
  · rename_i l hd
    simp only [Rep] at hx; subst hx
    simp only [Option.some.injEq, Prod.mk.injEq] at h
    obtain ⟨_, rfl⟩ := h
    exact ⟨_, by simp [convert, run_underlying' hs, run_underlying' hd], rfl⟩
  · cases h

theorem aField_ok {t : TypeId} {x : AV} {c : Value} {f : Nat} {ps : List Prop} {v : AV} (hx : Rep x G c) (h : aField P t x f = some (ps, v)) : ∃ u, (Instr.field t c f).run P w = .ok u w ∧ Rep v G u := by
  unfold aField at h
  split at h
  · rename_i fs cs hu
    obtain ⟨vs, rfl, hv⟩ := hx
    split at h
    · rename_i fd hf
      split at h
      · rename_i v' hl
        simp only [Option.some.injEq, Prod.mk.injEq] at h
        obtain ⟨_, rfl⟩ := h
        unfold aload at hl
        split at hl
        · rename_i ha
          split at hl
          · rename_i n hn
            cases hb : Nat.ble (fd.offset + n) cs.length <;> rw [hb] at hl <;> simp only [cond_true, cond_false, Option.some.injEq, reduceCtorEq] at hl
            subst hl
            refine ⟨.agg (vs.extract fd.offset (fd.offset + n)), by simp [Instr.field, run_underlying' hu, hf, asAgg, part, run_isAgg' ha, run_sizeOf' hn], _, rfl, ?_⟩
            have := reps_take n (reps_drop fd.offset hv)
            simpa [List.extract_eq_take_drop] using this
          · cases hl
        · rename_i ha
          obtain ⟨u, hu', hru⟩ := reps_get hv hl
          refine ⟨u, ?_, hru⟩
          have : vs[fd.offset]? = some u := by simpa using hu'
          simp [Instr.field, run_underlying' hu, hf, asAgg, part, run_isAgg' ha, this]
        · cases hl
      · cases h
    · cases h
  · cases h

theorem aFieldAddr_ok {t : TypeId} {x : AV} {c : Value} {f : Nat} {ps : List Prop} {v : AV} (hx : Rep x G c) (h : aFieldAddr P t x f = some (ps, v)) : ∃ u, (Instr.fieldAt t c f).run P w = .ok u w ∧ Rep v G u := by
  unfold aFieldAddr at h
  split at h
  · rename_i fs hu
    split at h
    · rename_i fd hf
      split at h
      · rename_i sz hs
        cases hz : Nat.beq sz 0 <;> rw [hz] at h <;> simp only [cond_true, cond_false, reduceCtorEq] at h
        have hz' : sz ≠ 0 := by intro e; subst e; simp at hz
        have add0 : ∀ (b o n : Nat), Addr.add ⟨b, o, none⟩ n = ⟨b, o + n, none⟩ := fun b o n => by unfold Addr.add; split <;> simp_all
        split at h
        · rename_i b off
          obtain ⟨B, hB, rfl⟩ := hx
          simp only [Option.some.injEq, Prod.mk.injEq] at h
          obtain ⟨_, rfl⟩ := h
          exact ⟨_, by simp [Instr.fieldAt, run_underlying' hu, hf, Instr.sureAddr, fieldPlace, run_sizeOf' hs, hz', add0], B, hB, rfl⟩
        · rename_i cs
          obtain ⟨b, o, rfl, hc⟩ := hx
          cases hl : Nat.ble fd.offset cs.length <;> rw [hl] at h <;> simp only [cond_true, cond_false, Option.some.injEq, Prod.mk.injEq, reduceCtorEq] at h
          obtain ⟨_, rfl⟩ := h
          exact ⟨_, by simp [Instr.fieldAt, run_underlying' hu, hf, Instr.sureAddr, fieldPlace, run_sizeOf' hs, hz', add0], b, o + fd.offset, rfl, hc.drop _ (by simpa using hl)⟩
        · rename_i k sz' i off
          obtain ⟨b, n, c, hB, rfl⟩ := hx
          simp only [Option.some.injEq, Prod.mk.injEq] at h
          obtain ⟨_, rfl⟩ := h
          exact ⟨_, by simp [Instr.fieldAt, run_underlying' hu, hf, Instr.sureAddr, fieldPlace, run_sizeOf' hs, hz', add0]; rfl, b, n, c, hB, by simp; omega⟩
        · cases h
      · cases h
    · cases h
  · cases h
end
end Go.Sym
