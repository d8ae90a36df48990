/- A state seen through fewer names; the end of a body; its beginning; how derivations are put together. -/
import Derived.Test.YtlfafgmhjplbeaaSymP
namespace Go.Sym
open Go.RowKit

def lookN : List (Nat × Nat) → Nat → Option Nat
  | [], _ => none
  | (k, v) :: r, i => bif Nat.beq k i then some v else lookN r i
def lookR : List (Nat × Nat) → Nat → Option Nat
  | [], _ => none
  | (k, v) :: r, i => bif Nat.beq v i then some k else lookR r i
/-- the new name of the old name n (names: pairs of new and old names) -/
def rho (names : List (Nat × Nat)) (n : Nat) : Option Nat :=
  match lookR names n with
  | some m => match lookN names m with
    | some n' => bif Nat.beq n' n then some m else none
    | none => none
  | none => none
def viewHp (ρ : Nat → Option Nat) (hp : List (Nat × Box)) : List (Nat × Nat) → Option (List (Nat × Box))
  | [] => some []
  | (m, n) :: r => match look hp n with
    | some b => match viewHp ρ hp r with
      | some l => some ((m, renB ρ b) :: l)
      | none => none
    | none => none
def viewFr (ρ : Nat → Option Nat) (fr : List (Nat × AV)) : List Nat → Option (List (Nat × AV))
  | [] => some []
  | i :: r => match look fr i with
    | some x => match viewFr ρ fr r with
      | some l => some ((i, x.ren ρ) :: l)
      | none => none
    | none => none
def keepsAll (names : List (Nat × Nat)) : List (Nat × Box) → Bool
  | [] => true
  | (n, _) :: r => (match lookN names n with | some m => Nat.beq m n | none => false) && keepsAll names r
def St.view (hp₀ : List (Nat × Box)) (s : St) (names : List (Nat × Nat)) (live : List Nat) : Option St :=
  bif keepsAll names hp₀ then
    match viewHp (rho names) s.hp names with
    | some hp => match viewFr (rho names) s.fr live with
      | some fr => some { n := s.n, fr := fr, hp := hp, nx := 16 * s.n }
      | none => none
    | none => none
  else none
def Gh.view (G : Gh) (names : List (Nat × Nat)) : Gh := { imm := G.imm, box := fun m => (lookN names m).bind G.box, own := fun m => (lookN names m).bind G.own }

theorem rho_spec {names : List (Nat × Nat)} {n m : Nat} (h : rho names n = some m) : lookN names m = some n := by
  unfold rho at h
  split at h
  · rename_i m' hm
    split at h
    · rename_i n' hn
      cases hb : Nat.beq n' n <;> rw [hb] at h <;> simp only [cond_true, cond_false, reduceCtorEq, Option.some.injEq] at h
      subst h; have := Nat.eq_of_beq_eq_true hb; subst this; exact hn
    · cases h
  · cases h
theorem keepsAll_look {names : List (Nat × Nat)} : ∀ {hp : List (Nat × Box)}, keepsAll names hp = true → ∀ n bx, look hp n = some bx → lookN names n = some n
  | [], _, n, bx, h => by cases h
  | (k, b) :: r, h, n, bx, hl => by
    simp only [keepsAll, Bool.and_eq_true] at h
    simp only [look] at hl
    cases hb : Nat.beq k n
    · rw [hb] at hl; exact keepsAll_look h.2 n bx hl
    · have := Nat.eq_of_beq_eq_true hb; subst this
      obtain ⟨h1, _⟩ := h
      split at h1
      · rename_i m hm; have := Nat.eq_of_beq_eq_true h1; subst this; exact hm
      · cases h1
theorem viewHp_look {ρ : Nat → Option Nat} {hp : List (Nat × Box)} : ∀ {names : List (Nat × Nat)} {l : List (Nat × Box)}, viewHp ρ hp names = some l → ∀ m, (∀ b', look l m = some b' → ∃ n b, lookN names m = some n ∧ look hp n = some b ∧ b' = renB ρ b) ∧ (look l m = none → lookN names m = none)
  | [], l, h, m => by simp only [viewHp, Option.some.injEq] at h; subst h; exact ⟨fun b' hb => (by cases hb), fun _ => rfl⟩
  | (k, n) :: r, l, h, m => by
    simp only [viewHp] at h
    split at h
    · rename_i b hb
      split at h
      · rename_i l1 hl1
        simp only [Option.some.injEq] at h; subst h
        simp only [look, lookN]
        cases hq : Nat.beq k m
        · simpa using viewHp_look hl1 m
        · simp only [cond_true]
          exact ⟨fun b' hb' => by injection hb' with hb'; exact ⟨n, b, rfl, hb, hb'.symm⟩, fun h => (by cases h)⟩
      · cases h
    · cases h
theorem viewFr_look {ρ : Nat → Option Nat} {fr : List (Nat × AV)} : ∀ {live : List Nat} {l : List (Nat × AV)}, viewFr ρ fr live = some l → ∀ i x, look l i = some x → ∃ y, look fr i = some y ∧ x = y.ren ρ
  | [], l, h, i, x, hx => by simp only [viewFr, Option.some.injEq] at h; subst h; cases hx
  | j :: r, l, h, i, x, hx => by
    simp only [viewFr] at h
    split at h
    · rename_i y hy
      split at h
      · rename_i l1 hl1
        simp only [Option.some.injEq] at h; subst h
        simp only [look] at hx
        cases hq : Nat.beq j i
        · rw [hq] at hx; exact viewFr_look hl1 i x hx
        · rw [hq] at hx; have := Nat.eq_of_beq_eq_true hq; subst this
          simp only [cond_true, Option.some.injEq] at hx
          exact ⟨y, hy, hx.symm⟩
      · cases h
    · cases h

section
variable {P : Program} {w₀ : World} {G₀ : Gh} {hp₀ : List (Nat × Box)} {G : Gh} {s : St} {a : Act} {w : World}

theorem view_box (names : List (Nat × Nat)) : ∀ n n' B, rho names n = some n' → G.box n = some B → (G.view names).box n' = some B := fun n n' B h h1 => by
  show (lookN names n').bind G.box = _
  rw [rho_spec h]; exact h1
theorem view_own (names : List (Nat × Nat)) : ∀ n n' B, rho names n = some n' → G.own n = some B → (G.view names).own n' = some B := fun n n' B h h1 => by
  show (lookN names n').bind G.own = _
  rw [rho_spec h]; exact h1
theorem Fin.view {hp l : List (Nat × Box)} (hf : Fin w₀ G₀ hp₀ G hp w) {names : List (Nat × Nat)} (hk : keepsAll names hp₀ = true) (h : viewHp (rho names) hp names = some l) (hinj : ∀ m m' n, lookN names m = some n → lookN names m' = some n → m = m') : Fin w₀ G₀ hp₀ (G.view names) l w := by
  have hat : ∀ m n b, lookN names m = some n → (G.view names).at m (renB (rho names) b) = G.at n b := fun m n b hm => by
    cases b with
    | cells cs T => simp [renB, Gh.at, Gh.view, hm]
    | row sz enc l E => simp [renB, Gh.at, Gh.view, hm]
    | dead => rfl
  refine ⟨⟨hf.mem.agree, hf.mem.one, ?_, ?_⟩, hf.bel, hf.imm_le, hf.imm_new, ?_, ?_⟩
  · intro m b' hb'
    obtain ⟨n, b, h1, h2, rfl⟩ := (viewHp_look h m).1 b' hb'
    have hb := hf.mem.holds n b h2
    cases b with
    | cells cs T =>
      obtain ⟨B, vs, k1, k2, k3, k4, k5⟩ := hb
      exact ⟨B, vs, by simp [Gh.view, h1, k1], k2, Reps.ren (G := G) (G' := G.view names) (fun _ _ _ h => h) (view_box names) (view_own names) k3, k4, k5⟩
    | row sz enc l E =>
      obtain ⟨ad, c, k1, k2, k3⟩ := hb
      exact ⟨ad, c, by simp [Gh.view, h1, k1], k2, k3⟩
    | dead => trivial
  · intro m m' b b' c h1 h2 h3 h4
    obtain ⟨n, b0, i1, i2, rfl⟩ := (viewHp_look h m).1 b h1
    obtain ⟨n', b0', j1, j2, rfl⟩ := (viewHp_look h m').1 b' h2
    rw [hat m n b0 i1] at h3
    rw [hat m' n' b0' j1] at h4
    have := hf.mem.apart n n' b0 b0' c i2 j2 h3 h4
    subst this
    exact hinj m m' n i1 j1
  · intro m b c h1 h2
    obtain ⟨n, b0, i1, i2, rfl⟩ := (viewHp_look h m).1 b h1
    rw [hat m n b0 i1] at h2
    exact hf.base n b0 c i2 h2
  · intro n bx B h1 h2
    have := keepsAll_look hk n bx h1
    simp [Gh.view, this, hf.keep n bx B h1 h2]

/-- no old name has two new ones -/
def distinctOld : List (Nat × Nat) → Bool
  | [] => true
  | (_, n) :: r => (match lookR r n with | some _ => false | none => true) && distinctOld r
theorem lookR_none : ∀ {names : List (Nat × Nat)} {n : Nat}, lookR names n = none → ∀ m, lookN names m ≠ some n
  | [], n, _, m => by simp [lookN]
  | (k, v) :: r, n, h, m => by
    simp only [lookR] at h
    cases hb : Nat.beq v n
    · rw [hb] at h; simp only [cond_false] at h
      simp only [lookN]
      cases hq : Nat.beq k m
      · exact lookR_none h m
      · simp only [cond_true, ne_eq, Option.some.injEq]; intro e; subst e; simp at hb
    · rw [hb] at h; cases h
theorem distinctOld_spec : ∀ {names : List (Nat × Nat)}, distinctOld names = true → ∀ m m' n, lookN names m = some n → lookN names m' = some n → m = m'
  | [], _, m, m', n, h, _ => by cases h
  | (k, v) :: r, hd, m, m', n, h, h' => by
    simp only [distinctOld, Bool.and_eq_true] at hd
    have hn : lookR r v = none := by
      obtain ⟨h1, _⟩ := hd
      split at h1
      · cases h1
      · assumption
    simp only [lookN] at h h'
    cases hq : Nat.beq k m <;> cases hq' : Nat.beq k m' <;> rw [hq] at h <;> rw [hq'] at h' <;> simp only [cond_true, cond_false, Option.some.injEq] at h h'
    · exact distinctOld_spec hd.2 m m' n h h'
    · subst h'; exact absurd h (lookR_none hn m)
    · subst h; exact absurd h' (lookR_none hn m')
    · rw [← Nat.eq_of_beq_eq_true hq, ← Nat.eq_of_beq_eq_true hq']

theorem Rel.view (hr : Rel w₀ G₀ hp₀ G s a w) {names : List (Nat × Nat)} {live : List Nat} {s' : St} (h : s.view hp₀ names live = some s') (hd : distinctOld names = true) : Rel w₀ G₀ hp₀ (G.view names) s' a w := by
  unfold St.view at h
  cases hk : keepsAll names hp₀ <;> rw [hk] at h <;> simp only [cond_true, cond_false, reduceCtorEq] at h
  split at h
  · rename_i hp hhp
    split at h
    · rename_i fr hfr
      simp only [Option.some.injEq] at h; subst h
      refine ⟨hr.defers, hr.size, fun i x hx => ?_, fun m _ hl => ?_, hr.fin.view hk hhp (distinctOld_spec hd)⟩
      · obtain ⟨y, hy, rfl⟩ := viewFr_look hfr i x hx
        obtain ⟨v, h1, h2⟩ := hr.frame i y hy
        exact ⟨v, h1, Rep.ren (G := G) (G' := G.view names) (fun _ _ _ h => h) (view_box names) (view_own names) h2⟩
      · have := (viewHp_look hhp m).2 hl
        simp [Gh.view, this]
    · cases h
  · cases h

/-- a way through the code, up to a state seen through names -/
def apath (P : Program) (hp₀ : List (Nat × Box)) (n : Nat) (rs : List RD) (k : List Item) (s : St) (names : List (Nat × Nat)) (live : List Nat) : Option (List Prop × List Item × St) :=
  match arun P n rs k s [] with
  | some (ps, k', s') => bif distinctOld names then (match s'.view hp₀ names live with
    | some s'' => some (ps, k', s'')
    | none => none) else none
  | none => none
theorem Ok.path {f : FuncId} {n : Nat} {rs : List RD} {k k' : List Item} {s s' : St} {names : List (Nat × Nat)} {live : List Nat} {ps : List Prop} {r : AV} {hp' : List (Nat × Box)}
    (h : apath P hp₀ n rs k s names live = some (ps, k', s')) (hp : Alls ps) (ho : Ok P f hp₀ k' s' r hp') : Ok P f hp₀ k s r hp' := by
  unfold apath at h
  split at h
  · rename_i ps1 k1 s1 h1
    cases hd : distinctOld names <;> rw [hd] at h <;> simp only [cond_true, cond_false, reduceCtorEq] at h
    split at h
    · rename_i s2 h2
      simp only [Option.some.injEq, Prod.mk.injEq] at h; obtain ⟨rfl, rfl, rfl⟩ := h
      exact (arun_ok n rs k s [] _ _ _ h1 hp).2 (fun w₀ G₀ G a w hr => ho w₀ G₀ _ a w (hr.view h2 hd))
    · cases h
  · cases h

def aresult (P : Program) (s : St) : ResultVar → Option AV
  | .tmp t => look s.fr t
  | .cell t T => match look s.fr t with
    | some (.ptr b off) => match look s.hp b with
      | some (.cells cs _) => aload P T cs off
      | _ => none
    | _ => none
def aresults (P : Program) (s : St) : List ResultVar → Option (List AV)
  | [] => some []
  | x :: xs => match aresult P s x with
    | some v => match aresults P s xs with
      | some vs => some (v :: vs)
      | none => none
    | none => none
def resOf (tmps : Array Value) (x : ResultVar) : Sem Value := match x with
  | .tmp t => pure (tmps.getD t undef)
  | .cell a t => do loadVar t (← asAddr (tmps.getD a undef))
theorem results_eq (fn : Func) (tmps : Array Value) : results fn tmps = (do let vs ← fn.results.mapM (resOf tmps); pure (if h : vs.size = 1 then vs[0] else .tuple vs)) := rfl
def aret (P : Program) (fn : Func) (s : St) : Option AV :=
  match aresults P s fn.results.toList with
  | some [v] => some v
  | some vs => some (.tup vs)
  | none => none
theorem aresult_ok (hr : Rel w₀ G₀ hp₀ G s a w) {x : ResultVar} {v : AV} (h : aresult P s x = some v) : ∃ u, (resOf a.tmps x).run P w = .ok u w ∧ Rep v G u := by
  cases x with
  | tmp t =>
    obtain ⟨u, h1, h2⟩ := hr.frame t v h
    exact ⟨u, by simp [resOf, Array.getD_eq_getD_getElem?, h1], h2⟩
  | cell t T =>
    simp only [aresult] at h
    split at h
    · rename_i b off hb
      split at h
      · rename_i cs T' hc
        obtain ⟨u, h1, B, hB, rfl⟩ := hr.frame _ _ hb
        obtain ⟨B', vs, k1, k2, k3, _⟩ := hr.fin.mem.holds _ _ hc
        rw [k1] at hB; injection hB with hB; subst hB
        obtain ⟨z, hz, hrz⟩ := run_loadVar' (P := P) (w := w) h (o := 0) k3 (fun j u hu => by rw [Nat.zero_add]; exact cell_of_heap k2 hu)
        rw [Nat.zero_add] at hz
        exact ⟨z, by simp [resOf, Array.getD_eq_getD_getElem?, h1, asAddr, hz], hrz⟩
      · cases h
    · cases h
theorem aresults_ok (hr : Rel w₀ G₀ hp₀ G s a w) : ∀ {xs : List ResultVar} {vs : List AV}, aresults P s xs = some vs →
    ∃ us : List Value, (xs.mapM (resOf a.tmps)).run P w = .ok us w ∧ Reps vs G us
  | [], vs, h => by simp only [aresults, Option.some.injEq] at h; subst h; exact ⟨[], by simp, trivial⟩
  | x :: xs, vs, h => by
    simp only [aresults] at h
    split at h
    · rename_i v hv
      split at h
      · rename_i us hus
        simp only [Option.some.injEq] at h; subst h
        obtain ⟨u, hu, hru⟩ := aresult_ok hr hv
        obtain ⟨us', hu', hru'⟩ := aresults_ok hr hus
        refine ⟨u :: us', ?_, hru, hru'⟩
        rw [List.mapM_cons]
        simp only [Sem.run_bind, hu, Result.andThen_ok, hu', Sem.run_pure]
      · cases h
    · cases h
theorem aret_ok (hr : Rel w₀ G₀ hp₀ G s a w) {fn : Func} {v : AV} (h : aret P fn s = some v) : ∃ u, (results fn a.tmps).run P w = .ok u w ∧ Rep v G u := by
  unfold aret at h
  have key : ∀ vs, aresults P s fn.results.toList = some vs → ∃ us : List Value, (results fn a.tmps).run P w = .ok (if h : us.toArray.size = 1 then us.toArray[0] else .tuple us.toArray) w ∧ Reps vs G us := fun vs hv => by
    obtain ⟨us, h1, h2⟩ := aresults_ok hr hv
    refine ⟨us, ?_, h2⟩
    rw [results_eq, Array.mapM_eq_mapM_toList]
    simp only [Sem.run_bind, Sem.run_map, h1, Result.andThen_ok, Sem.run_pure]
  split at h
  · rename_i v' hv
    simp only [Option.some.injEq] at h; subst h
    obtain ⟨us, h1, h2⟩ := key _ hv
    match us, h2 with
    | [u], h2 => exact ⟨u, by rw [h1]; rfl, h2.1⟩
    | [], h2 => exact h2.elim
    | _ :: _ :: _, h2 => exact h2.2.elim
  · rename_i vs hne hv
    simp only [Option.some.injEq] at h; subst h
    obtain ⟨us, h1, h2⟩ := key _ hv
    refine ⟨.tuple us.toArray, ?_, us.toArray, rfl, by simpa using h2⟩
    rw [h1, dif_neg]
    intro he
    have hl := h2.length
    simp at he
    rw [he] at hl
    match vs, hl with
    | [x], _ => exact hne x rfl
  · cases h

def atEnd : List Item → Bool
  | [] => true
  | .code .ret :: _ => true
  | _ => false
/-- the end of a body: what is handed back, seen through names, and as r -/
def aend (P : Program) (hp₀ : List (Nat × Box)) (fn : Func) (k : List Item) (s : St) (names : List (Nat × Nat)) (r : AV) : Option (List Prop × List (Nat × Box)) :=
  bif atEnd k && keepsAll names hp₀ && distinctOld names then
    match aret P fn s, viewHp (rho names) s.hp names with
    | some v, some hp => match vw false [] (v.ren (rho names)) r with
      | some ps => some (ps, hp)
      | none => none
    | _, _ => none
  else none
theorem Ok.ret {f : FuncId} {fn : Func} (hfn : P.funcs[f]? = some fn) {k : List Item} {names : List (Nat × Nat)} {r : AV} {ps : List Prop} {hp' : List (Nat × Box)} (h : aend P hp₀ fn k s names r = some (ps, hp')) (hps : Alls ps) : Ok P f hp₀ k s r hp' := by
  unfold aend at h
  cases hk : atEnd k && keepsAll names hp₀ && distinctOld names <;> rw [hk] at h <;> simp only [cond_true, cond_false, reduceCtorEq] at h
  simp only [Bool.and_eq_true] at hk
  obtain ⟨⟨hk1, hk2⟩, hk3⟩ := hk
  split at h
  · rename_i v hp hv hhp
    split at h
    rotate_left
    · cases h
    rename_i ps' hvw
    simp only [Option.some.injEq, Prod.mk.injEq] at h; obtain ⟨rfl, rfl⟩ := h
    intro w₀ G₀ G a w hr b cs hb hkind
    obtain ⟨u, hu, hru⟩ := aret_ok hr hv
    refine ⟨.returned u, w, { b.at a k with mode := .returning }, ⟨u, G.view names, rfl, hr.fin.view hk2 hhp (distinctOld_spec hk3), vw_ok (Gh.le.refl _) (fun e => by cases e) hvw hps (Rep.ren (G := G) (G' := G.view names) (fun _ _ _ h => h) (view_box names) (view_own names) hru)⟩, ?_, hb, ?_⟩
    · unfold atEnd at hk1
      split at hk1
      · exact .one step_end
      · exact .one step_ret
      · cases hk1
    · exact ⟨rfl, hr.defers, hkind, fn, by rw [← hb] at hfn; exact hfn, hu⟩
  · cases h

/-- the beginning of a body -/
def initFr : List AV → Nat → List (Nat × AV)
  | [], _ => []
  | x :: xs, i => (i, x) :: initFr xs (i + 1)
def init (n : Nat) (xs : List AV) (hp : List (Nat × Box)) : St := { n := n, fr := initFr xs 0, hp := hp, nx := 16 * n }
theorem initFr_look : ∀ {xs : List AV} {G : Gh} {vs : List Value} (i : Nat), Reps xs G vs → ∀ j x, look (initFr xs i) j = some x → i ≤ j ∧ ∃ v, vs[j - i]? = some v ∧ Rep x G v
  | [], _, [], _, _, j, x, h => by cases h
  | x :: xs, G, v :: vs, i, hr, j, y, h => by
    simp only [initFr, look] at h
    cases hb : Nat.beq i j
    · rw [hb] at h
      obtain ⟨h1, u, h2, h3⟩ := initFr_look (i + 1) hr.2 j y h
      refine ⟨by omega, u, ?_, h3⟩
      rw [show j - i = (j - (i + 1)) + 1 by omega]; simpa using h2
    · rw [hb] at h; have := Nat.eq_of_beq_eq_true hb; subst this
      simp only [cond_true, Option.some.injEq] at h; subst h
      exact ⟨Nat.le_refl _, v, by simp, hr.1⟩
  | [], _, _ :: _, _, h, _, _, _ => h.elim
  | _ :: _, _, [], _, h, _, _, _ => h.elim
theorem blocks_self {hp : List (Nat × Box)} (hm : Mem G hp w) : Fin w G hp G hp w :=
  ⟨hm, ⟨rfl, rfl, rfl, Nat.le_refl _, fun _ _ _ => rfl⟩, fun _ _ _ h => h, fun _ _ _ h => .inl h, fun n bx b h1 h2 => .inr ⟨n, bx, h1, h2⟩, fun _ _ _ _ h => h⟩
def restrictG (G : Gh) (hp : List (Nat × Box)) : Gh := G
theorem CallsTo.of {f : FuncId} {fn : Func} {c : Code} (hfn : P.funcs[f]? = some fn) (hb : fn.body = some c) {xs : List AV} {r : AV} {hp' : List (Nat × Box)} (hlen : Nat.ble xs.length fn.ntmps = true)
    (h : Ok P f [] [.code c] (init fn.ntmps xs []) r hp') (hx : ∀ ρ : Nat → Option Nat, AV.rens ρ xs = xs) : CallsTo P f xs [] r hp' := by
  intro w G vs hm hreps
  have hlv := hreps.length
  have hlen := Nat.le_of_ble_eq_true hlen
  -- names of the caller are forgotten
  have hreps' : Reps xs G.data vs := by
    have := Reps.ren (ρ := fun _ => none) (G := G) (G' := G.data) (fun _ _ _ h => h) (fun _ _ _ e => by cases e) (fun _ _ _ e => by cases e) hreps
    rwa [hx] at this
  have hm' : Mem G.data [] w := ⟨hm.agree, hm.one, fun n bx h => (by cases h), fun n m bx bx' b h => (by cases h)⟩
  have hr : Rel w G.data [] G.data (init fn.ntmps xs []) { tmps := vs.toArray ++ Array.replicate (fn.ntmps - vs.toArray.size) undef, defers := [] } w := by
    refine ⟨rfl, ?_, ?_, fun m _ _ => ⟨rfl, rfl⟩, blocks_self hm'⟩
    · simp [init]; omega
    · intro i x hx
      obtain ⟨_, v, h2, h3⟩ := initFr_look 0 hreps' i x hx
      refine ⟨v, ?_, h3⟩
      have hlt : i < vs.length := by have := (List.getElem?_eq_some_iff.1 h2).1; simpa using this
      rw [Array.getElem?_append_left (by simpa using hlt)]
      simpa using h2
  have hex := h w G.data G.data _ w hr
  have hpost : ∀ e w', Post w G.data [] r hp' e w' → Post w G [] r hp' e w' := by
    rintro e w' ⟨v, G1, he, hf, hv⟩
    have hnb : ∀ (G : Gh) b, ¬ blocks G [] b := fun G b ⟨n, bx, h, _⟩ => by cases h
    refine ⟨v, G1, he, ⟨hf.mem, ⟨hf.bel.os, hf.bel.tape, hf.bel.output, hf.bel.size, fun k hk _ => hf.bel.block k hk (hnb _ k)⟩, hf.imm_le, fun b o v h => ?_, fun n bx b h1 h2 => ?_, fun n bx B h => by cases h⟩, hv⟩
    · rcases hf.imm_new b o v h with h | h | h
      · exact .inl h
      · exact .inr (.inl h)
      · exact absurd h (hnb _ b)
    · rcases hf.base n bx b h1 h2 with h | h
      · exact .inl h
      · exact absurd h (hnb _ b)
  intro cs
  let b : Frame := { (default : Frame) with fn := f, kind := .normal }
  have henter : Frame.enter P f vs.toArray .normal = b.at { tmps := vs.toArray ++ Array.replicate (fn.ntmps - vs.toArray.size) undef, defers := [] } [.code c] := by
    simp [Frame.enter, Frame.at, hfn, hb, b]
  obtain ⟨e, w', fr, h1, h2, h3⟩ := hex b cs rfl rfl
  exact ⟨e, w', fr, hpost _ _ h1, by rw [henter]; exact h2, h3⟩
end
end Go.Sym
