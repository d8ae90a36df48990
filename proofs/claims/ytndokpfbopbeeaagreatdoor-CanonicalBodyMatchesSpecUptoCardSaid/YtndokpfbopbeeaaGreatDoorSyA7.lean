/- What the claim rests on, part 7: gathered texts. -/
import Derived.MakeChecks
import Derived.LaidLaws
import Derived.Test.YtndokpfbopbeeaaGreatDoorSyA6
/- The tables of a row's listed variables, as memory knows them: what a law's claim asks of LC.tab. -/
namespace Go.Sym
open Go.ChangeShapes Go.WideShapes Go.ChangeAt Go.RowKit
variable [LC]

def ieq (a b : Int) : Bool := decide (a = b)
/-- a listed datum is this one -/
def datEq : (τ : Ty) → τ.den → DataW Unit → Bool
  | .int k, x, .lit (.int k' n) => decide (k' = k) && ieq n x
  | .byte, x, .lit (.int k' n) => decide (k' = .u8) && ieq n x.toNat
  | .prod .byte .byte, x, .agg [.lit (.int _ a), .lit (.int _ b)] => ieq a x.1.toNat && ieq b x.2.toNat
  | _, _, _ => false
def datsEq (τ : Ty) : List τ.den → List (DataW Unit) → Bool
  | [], [] => true
  | x :: l, d :: ds => datEq τ x d && datsEq τ l ds
  | _, _ => false
def isU8 (P : Program) (t : TypeId) : Bool := match P.underlying t with
  | some (.int .u8) => Nat.beq (P.cellsOf t) 1
  | _ => false
def elOk (P : Program) (t : TypeId) : Ty → Bool
  | .int k => match P.underlying t with
    | some (.int k') => decide (k' = k)
    | _ => false
  | .byte => match P.underlying t with
    | some (.int .u8) => true
    | _ => false
  | .prod .byte .byte => match P.underlying t with
    | some (.struct fs) => match fs.toList with
      | [f, g] => Nat.beq f.offset 0 && Nat.beq g.offset 1 && isU8 P f.type && isU8 P g.type && Nat.beq (P.cellsOf t) 2
      | _ => false
    | _ => false
  | _ => false
section
variable {P : Program} {w : World} {base : Nat} {sp : Nat → Bool}
omit [LC] in
theorem el_ok {m : Nat} {τ : Ty} {t : TypeId} {cs : List Value} {y : DataW Unit × List MemPlace} {x : τ.den} (ht : elOk P t τ = true) (h : DataW.trod (fun _ => ()) P w base sp false m t cs = some y) (hx : datEq τ x y.1 = true) : Reps (τ.enc x) (Gw w) cs ∧ ∀ v ∈ cs, v.oneCell' = true := by
  unfold elOk at ht
  split at ht
  · rename_i k
    split at ht
    · rename_i k' hu
      have hk : k' = k := of_decide_eq_true ht
      subst hk
      obtain ⟨n, rfl, rfl, _⟩ := DataW.trod_int hu h
      simp only [datEq, ieq, Bool.and_eq_true, decide_eq_true_eq] at hx
      obtain ⟨_, rfl⟩ := hx
      exact ⟨⟨rfl, trivial⟩, fun v hv => by rw [List.mem_singleton] at hv; subst hv; rfl⟩
    · cases ht
  · split at ht
    · rename_i hu
      obtain ⟨n, rfl, rfl, _⟩ := DataW.trod_int hu h
      simp only [datEq, ieq, Bool.and_eq_true, decide_eq_true_eq] at hx
      obtain ⟨_, rfl⟩ := hx
      exact ⟨⟨rfl, trivial⟩, fun v hv => by rw [List.mem_singleton] at hv; subst hv; rfl⟩
    · cases ht
  · split at ht
    · rename_i fs hu
      split at ht
      · rename_i f g hfs
        simp only [Bool.and_eq_true] at ht
        obtain ⟨⟨⟨⟨o1, o2⟩, u1⟩, u2⟩, c2⟩ := ht
        have o1 := Nat.eq_of_beq_eq_true o1
        have o2 := Nat.eq_of_beq_eq_true o2
        have c2 := Nat.eq_of_beq_eq_true c2
        have key : ∀ t, isU8 P t = true → P.underlying t = some (.int .u8) ∧ P.cellsOf t = 1 := fun t h => by
          unfold isU8 at h
          split at h
          · rename_i hu; exact ⟨hu, Nat.eq_of_beq_eq_true h⟩
          · cases h
        obtain ⟨k1, s1⟩ := key _ u1
        obtain ⟨k2, s2⟩ := key _ u2
        obtain ⟨xs, n, rfl, rfl, hl, hxl, hg⟩ := DataW.trod_struct hu h
        have g0 := hg 0 f (by rw [← Array.getElem?_toList, hfs]; rfl)
        have g1 := hg 1 g (by rw [← Array.getElem?_toList, hfs]; rfl)
        have hsz : fs.size = 2 := by rw [← Array.length_toList, hfs]; rfl
        rw [hsz] at hxl
        rw [c2] at hl
        match cs, hl with
        | [a, b], _ =>
          match xs, hxl with
          | [p, q], _ =>
            rw [o1, s1] at g0
            rw [o2, s2] at g1
            obtain ⟨n1, e1, rfl, _⟩ := DataW.trod_int k1 g0
            obtain ⟨n2, e2, rfl, _⟩ := DataW.trod_int k2 g1
            simp only [List.drop_zero, List.take_succ_cons, List.take_zero, List.cons.injEq, and_true] at e1
            simp only [List.drop_succ_cons, List.drop_zero, List.take_succ_cons, List.take_zero, List.cons.injEq, and_true] at e2
            subst e1 e2
            simp only [List.map_cons, List.map_nil, datEq, ieq, Bool.and_eq_true, decide_eq_true_eq] at hx
            obtain ⟨rfl, rfl⟩ := hx
            exact ⟨⟨rfl, rfl, trivial⟩, fun v hv => by
              rcases List.mem_cons.1 hv with rfl | hv
              · rfl
              · rw [List.mem_singleton] at hv; subst hv; rfl⟩
      · cases ht
    · cases ht
  · cases ht
omit [LC] in
theorem dats_get {τ : Ty} : ∀ {l : List τ.den} {ds : List (DataW Unit)}, datsEq τ l ds = true → l.length = ds.length ∧ ∀ (j : Nat) (x : τ.den), l[j]? = some x → ∃ d, ds[j]? = some d ∧ datEq τ x d = true
  | [], [], _ => ⟨rfl, fun j x h => by simp at h⟩
  | [], _ :: _, h => by simp [datsEq] at h
  | _ :: _, [], h => by simp [datsEq] at h
  | y :: l, d :: ds, h => by
    simp only [datsEq, Bool.and_eq_true] at h
    obtain ⟨i1, i2⟩ := dats_get h.2
    refine ⟨by simp [i1], fun j x hx => ?_⟩
    match j with
    | 0 => simp only [List.getElem?_cons_zero, Option.some.injEq] at hx; subst hx; exact ⟨d, rfl, h.1⟩
    | j + 1 => exact i2 j x hx
/-- a table's variable, its row of the list, and its size -/
def rowFit (P : Program) (g : Nat) (τ : Ty) (l : List τ.den) (n : Nat) (d : DataW Unit) : Bool := match (P.globals[g]?).map (·.type) with
  | some t => match P.underlying t, d with
    | some (.array _m E), .agg ds => elOk P E τ && (Nat.beq (P.cellsOf E) τ.sz && (Nat.beq (P.cellsOf t) n && datsEq τ l ds))
    | _, _ => false
  | none => false
omit [LC] in
theorem rowFit_ok {g : Nat} {τ : Ty} {l : List τ.den} {n : Nat} {d : DataW Unit} (h : rowFit P g τ l n d = true) {t : TypeId} {cs : Array Value} {fuel : Nat} {p : List MemPlace} (ht : (P.globals[g]?).map (·.type) = some t)
    (hc : ∃ u fr, w.heap[g]? = some (.cells cs u fr)) (hd : DataW.trod (fun _ => ()) P w base sp false fuel t cs.toList = some (d, p)) :
    cs.size = n ∧ ∀ (j : Nat) (x : τ.den), l[j]? = some x → τ.At (Gw w).imm x g (j * τ.sz) := by
  unfold rowFit at h
  rw [ht] at h
  simp only at h
  split at h
  · rename_i m E ds hu
    simp only [Bool.and_eq_true] at h
    obtain ⟨h1, h2, h3, h4⟩ := h
    have h2 := Nat.eq_of_beq_eq_true h2
    have h3 := Nat.eq_of_beq_eq_true h3
    obtain ⟨xs, m', rfl, e, hl, hxl, hg⟩ := DataW.trod_array hu hd
    simp only [Prod.mk.injEq, DataW.agg.injEq] at e
    obtain ⟨rfl, rfl⟩ := e
    obtain ⟨dl, dg⟩ := dats_get h4
    refine ⟨by rw [← Array.length_toList, hl, h3], fun j x hx => ?_⟩
    obtain ⟨d, hd1, hd2⟩ := dg j x hx
    rw [List.getElem?_map] at hd1
    obtain ⟨y, hy, rfl⟩ := Option.map_eq_some_iff.1 hd1
    have hj : j < m := by rw [← hxl]; exact (List.getElem?_eq_some_iff.1 hy).1
    have := hg j hj
    rw [hy] at this
    obtain ⟨r1, r2⟩ := el_ok h1 this hd2
    refine At_iff.1 (Reps.cells _ _ _ r1 r2 fun i v hv => ?_)
    rw [h2, List.getElem?_take] at hv
    split at hv
    · rw [List.getElem?_drop] at hv
      obtain ⟨u, fr, hh⟩ := hc
      simp only [World.cell?, hh]
      rw [← Array.getElem?_toList]; exact hv
    · cases hv
  · cases h
omit [LC] in
theorem laidVar {laid : List (String × DataW Unit)} {n : String} {d : DataW Unit} : ∀ {l : List (String × DataW Unit)} {ps : List MemPlace}, DataW.LaidVars P w l ps → (n, d) ∈ l →
    ∃ g t cs fuel p, P.globalNamed n = some g ∧ (P.globals[g]?).map (·.type) = some t ∧ (∃ u fr, w.heap[g]? = some (.cells cs u fr)) ∧ DataW.trod (fun _ => ()) P w 0 (fun _ => true) false fuel t cs.toList = some (d, p)
  | [], _, _, h => by cases h
  | (n', d') :: r, ps, hl, h => by
    obtain ⟨g, t, cs, fuel, p, q, h1, h2, h3, h4, h5, _⟩ := hl
    rcases List.mem_cons.1 h with e | h
    · simp only [Prod.mk.injEq] at e
      obtain ⟨rfl, rfl⟩ := e
      refine ⟨g, t, cs, fuel, p, h1, h2, ?_, h4⟩
      unfold World.var? at h3
      rw [h1, Option.bind_some] at h3
      split at h3
      · rename_i c u fr hh
        have := Option.some.inj h3
        subst this
        exact ⟨u, fr, hh⟩
      · cases h3
    · exact laidVar (laid := laid) h5 h
end
/-- all tables, and the variables of interface types -/
def tabFit (P : Program) (laid : List (String × DataW Unit)) (e : Nat × Nat) : Bool := match LC.glob e.1 with
  | some ⟨τ, l⟩ => Nat.blt 0 l.length && laid.any fun x => match P.globalNamed x.1 with
    | some g => Nat.beq g e.1 && rowFit P e.1 τ l e.2 x.2
    | none => false
  | none => false
def ifFit (P : Program) (laid : List (String × DataW Unit)) (g : Nat) : Bool := laid.any fun x => match P.globalNamed x.1 with
  | some g' => Nat.beq g' g && (match (P.globals[g]?).map (·.type) with
    | some t => match P.underlying t, x.2 with
      | some (.interface _), .iface _ _ => true
      | _, _ => false
    | none => false)
  | none => false
theorem htab_of {P : Program} {laid : List (String × DataW Unit)} {W : World} (h : laidMetH P laid W) (hh : (laid.all fun x => x.2.handleName?.isNone) = true)
    (hg : ∀ g τ l, LC.glob g = some ⟨τ, l⟩ → ∃ n, (g, n) ∈ LC.sizes) (hs : LC.sizes.all (tabFit P laid) = true) (hi : LC.ifs.all (ifFit P laid) = true) (hn : ∀ g ∈ LC.ints, ∃ k, W.cell? ⟨g, 0, none⟩ = some (.int .i64 k)) : LC.tab (Gw W).imm W := by
  rw [MakeChecks.laidMetH_plain _ _ _ hh] at h
  obtain ⟨ps, hl, _⟩ := h
  have key : ∀ e ∈ LC.sizes, ∃ τ l, LC.glob e.1 = some ⟨τ, l⟩ ∧ 0 < l.length ∧ ∃ (cs : Array Value) (u : TypeId) (fr : Nat × Nat), W.heap[e.1]? = some (.cells cs u fr) ∧ cs.size = e.2 ∧ ∀ (j : Nat) (x : τ.den), l[j]? = some x → τ.At (Gw W).imm x e.1 (j * τ.sz) := fun e he => by
    have h1 := List.all_eq_true.1 hs e he
    unfold tabFit at h1
    split at h1
    · rename_i τ l hgl
      rw [Bool.and_eq_true] at h1
      obtain ⟨x, hx, h2⟩ := List.any_eq_true.1 h1.2
      split at h2
      · rename_i g hgn
        rw [Bool.and_eq_true] at h2
        have := Nat.eq_of_beq_eq_true h2.1
        subst this
        obtain ⟨g', t, cs, fuel, p, k1, k2, ⟨u, fr, k3⟩, k4⟩ := laidVar (laid := laid) hl (n := x.1) (d := x.2) hx
        rw [hgn] at k1
        have := Option.some.inj k1
        subst this
        obtain ⟨r1, r2⟩ := rowFit_ok h2.2 k2 ⟨u, fr, k3⟩ k4
        exact ⟨τ, l, hgl, Nat.le_of_ble_eq_true h1.1, cs, u, fr, k3, r1, r2⟩
      · cases h2
    · cases h1
  refine ⟨fun g τ l hgl j x hx => ?_, fun g hgi => ?_, fun g hgi => ?_, fun e he => ?_⟩
  · obtain ⟨n, hn⟩ := hg g τ l hgl
    obtain ⟨τ', l', h1, _, cs, u, fr, _, _, h5⟩ := key _ hn
    rw [hgl] at h1
    cases h1
    exact h5 j x hx
  · obtain ⟨k, hk⟩ := hn g hgi
    exact ⟨k, Gw_imm hk rfl⟩
  · have h1 := List.all_eq_true.1 hi g hgi
    obtain ⟨x, hx, h2⟩ := List.any_eq_true.1 h1
    split at h2
    · rename_i g' hgn
      rw [Bool.and_eq_true] at h2
      have := Nat.eq_of_beq_eq_true h2.1
      subst this
      obtain ⟨g2, t, cs, fuel, p, k1, k2, ⟨u, fr, k3⟩, k4⟩ := laidVar (laid := laid) hl (n := x.1) (d := x.2) hx
      rw [hgn] at k1
      have := Option.some.inj k1
      subst this
      have h3 := h2.2
      rw [k2] at h3
      simp only at h3
      split at h3
      · rename_i ms nm d hu hd
        rw [hd] at k4
        obtain ⟨_, u', v, hcs, _, _⟩ := iface_of_trod hu k4
        refine ⟨u', v, Gw_imm ?_ rfl⟩
        simp only [World.cell?, k3]
        rw [← Array.getElem?_toList, hcs]; rfl
      · cases h3
    · cases h2
  · obtain ⟨τ, l, h1, h2, cs, u, fr, h3, h4, h5⟩ := key e he
    refine ⟨?_, cs, u, fr, h3, h4⟩
    have h6 := h5 0 l[0] (by simp [h2])
    have : ∃ o v, (Gw W).imm e.1 o = some v := by
      have hx := List.all_eq_true.1 hs e he
      unfold tabFit at hx
      rw [h1] at hx
      simp only [Bool.and_eq_true] at hx
      obtain ⟨x, _, hx⟩ := List.any_eq_true.1 hx.2
      split at hx
      · rw [Bool.and_eq_true] at hx
        have hx := hx.2
        unfold rowFit at hx
        split at hx
        · split at hx
          · simp only [Bool.and_eq_true] at hx
            have hx := hx.1
            unfold elOk at hx
            split at hx
            · exact ⟨_, _, h6⟩
            · exact ⟨_, _, h6⟩
            · exact ⟨_, _, h6.1⟩
            · cases hx
          · cases hx
        · cases hx
      · cases hx
    exact this
section
variable {H : Type} {enc : TypeId × Value → H}
omit [LC] in
theorem witness_row_shaped {C : Checked} {os : Os} {f : FuncId} {fn : Func} {s : OpenSpec} {conds : List PathCond} {apart : Bool} {laid : List (String × DataW Unit)} (modest : Bool) (w0 : World) (args : Array Value) (hos : w0.os = os)
    (hsh : (w0.forCall (fun _ _ => 0) ⟨#[], args, []⟩).Shaped C.prog) (hok : Input.okWideB C.prog (w0.forCall (fun _ _ => 0) ⟨#[], args, []⟩) f ⟨#[], args, []⟩ = true)
    (hrow : s.preRow enc C.prog fn conds apart laid (w0.forCall (fun _ _ => 0) ⟨#[], args, []⟩).memory args) :
    ∃ (w : World) (tape : Tape) (i : Input), w.os = os ∧ (w.forCall tape i).Shaped C.prog ∧ i.vars = [] ∧ Input.okWide C.prog (w.forCall tape i) .any w.heap.size f i ∧
      s.preRow enc C.prog fn conds apart laid (w.forCall tape i).memory i.args ∧ ({ modest := modest } : Assume).holds C.prog (lone (Frame.enter C.prog f i.args .normal) [] (w.forCall tape i)) :=
  ⟨w0, fun _ _ => 0, ⟨#[], args, []⟩, hos, hsh, (Input.okWide_of_okWideB (base := 0) hok).1, (Input.okWide_of_okWideB hok).2, hrow, by
    simp only [Assume.holds]
    exact ⟨by simp, by simp, fun _ => Modest.zero, by simp, by simp⟩⟩
end
end Go.Sym
