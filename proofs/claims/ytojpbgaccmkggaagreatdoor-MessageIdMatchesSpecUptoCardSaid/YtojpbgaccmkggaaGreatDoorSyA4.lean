/- What the claim rests on, part 4: gathered texts. -/
import Derived.Lib.BytesEntry
import Derived.Laws.Externs
import Derived.Test.YtojpbgaccmkggaaGreatDoorRows
import Derived.Tactics
import Derived.Tactics2
import Derived.Defers
import Derived.Laws.Pointers
import Derived.Laws.LoneSync
import Derived.RegionTactic
import Derived.RegionCalls
import Derived.ChangeAlike
import Derived.Laws.NewBlocks
import Derived.Laws.ByValue
import Derived.Test.YtojpbgaccmkggaaGreatDoorSyA3
/- The whole of a body: what is emitted is what the machine does. -/
namespace Go.Sym
open Go.RowKit
variable [LC]

def jcode : Option Jmp → List Item
  | none => []
  | some j => [.code j.code]
section
variable {w₀ : World} {G₀ : Gh} {hp₀ : List (Nat × Box)} {G : Gh} {s : St} {a : Act} {w : World} {cx : Cx} {body : Code} {R : Type}

theorem rfGo_ok (ok : cx.Ok body) (hr : Rel w₀ G₀ hp₀ G s a w) {p : List Nat} {g : Operand} {ps : Array Tmp} {asn bo : Code} (hsub : sub body p = .rangeFunc g ps asn bo) {q : Rq × St × List AV} (hq : rfAsk cx p g ps.toList s = some q)
    {K : Option Jmp → St → Option R} {x : R} (h : rfGo s.nx q K = some x) {b : Frame} (cs : List Frame) (hb : b.fn = cx.f) (_hkind : b.kind = .normal) (hrd : RdOk cx G₀ hp₀ b) (k : List Item) :
    ∃ j s' G' a' w', K j s' = some x ∧ Rel w₀ G₀ hp₀ G' s' a' w' ∧ Steps cx.P (lone (b.atR a (.code (.rangeFunc g ps asn bo) :: k)) cs w) (lone (b.atR a' (jcode j ++ k)) cs w') := by
  unfold rfAsk at hq
  split at hq
  · rename_i tag h0 cap ht hg
    split at hq
    · rename_i s1 hs1
      split at hq
      · rename_i q1 hq1
        have hq := Option.some.inj hq; subst hq
        obtain ⟨G1, l, mark, w1, he, hl, hle, hr1, hnx⟩ := enterRF_ok hr (ok.tags p tag ht g ps asn bo hsub) hs1 hb hrd
        unfold rfGo at h
        obtain ⟨d, hd, h⟩ := Rq.K_some h
        simp only at h hd
        obtain ⟨e, hemem, hc⟩ := firstQ_mem hq1
        unfold callMQ at hc
        cases hkk : keyIs h0 e.key <;> rw [hkk] at hc <;> simp only [cond_true, cond_false, reduceCtorEq] at hc
        obtain ⟨N, x1, x1', y, k1, k2, k3, k4, k5, k6⟩ := memQ_ok hc hd
        subst k2
        have hs := ok.ents e hemem x1 x1' y k1
        rw [keyIs_eq hkk] at hs
        obtain ⟨hpl, hct⟩ := hs
        unfold rfCall at h
        simp only at h
        cases hbb : distinctOld N && distinctNew N && noRange s1.nx s1.hp <;> rw [hbb] at h <;> simp only [cond_true, cond_false, reduceCtorEq] at h
        simp only [Bool.and_eq_true] at hbb
        obtain ⟨⟨hb1, _⟩, hb2⟩ := hbb
        cases hv : viewHp (rho N) s1.hp N with
        | none => rw [hv] at h; simp only [reduceCtorEq] at h
        | some hpv =>
        cases hvs : vws false [] (AV.rens (rho N) (.yld s.nx :: cap)) (Pts.put e.args x1) with
        | none => rw [hv, hvs] at h; simp only [reduceCtorEq] at h
        | some ps1 =>
        rw [hv, hvs] at h
        simp only at h
        cases hvw : vwHp hpv (bput e.hp x1') with
        | none => rw [hvw] at h; simp only [reduceCtorEq] at h
        | some ps2 =>
        rw [hvw] at h
        simp only at h
        have p1 := k5 _ hvs
        have p2 := k6 _ _ hv hvw
        obtain ⟨fs, cps, hge, hfs, hcs⟩ := ev_ok hr hg
        have hfs0 : fs = #[] := Array.eq_empty_of_size_eq_zero (by simpa using hfs.length.symm)
        subst hfs0
        have hge' : ({ a with defers := mark ++ a.defers } : Act).eval g = .func (.func h0) #[] cps := hge
        have hres : (resolve a.eval (rangeCall g l) 0).run cx.P w1 = .ok { target := .fn (.func h0) cps, args := #[.func (.yield l) #[] #[]] } w1 := by
          have hy : a.eval (.const (.func (.yield l) #[] #[])) = .func (.yield l) #[] #[] := rfl
          simp [resolve, hge, Deferred.ofValue, hy]
        have hinv : (invoke (.fn (.func h0) cps) #[.func (.yield l) #[] #[]]).run cx.P w1 = .ok (.enter h0 (#[.func (.yield l) #[] #[]] ++ cps)) w1 := by
          simp [invoke, hpl _ w1]
        have henter := stepR_rangeFunc (P := cx.P) (b := b) (a := a) (k := k) (cs := cs) he hres hinv
        have hreps : Reps (.yld s.nx :: cap) G1 (.func (.yield l) #[] #[] :: cps.toList) := ⟨⟨l, hl, rfl⟩, hcs.le hle⟩
        have hm : Mem (G1.view N) (bput e.hp x1') w1 := (hr1.fin.mem.view hv (distinctOld_spec hb1)).vw hvw p2
        have hreps2 := vws_ok (Gh.le.refl _) (fun e => by cases e) hvs p1 (Reps.ren (G := G1) (G' := G1.view N) (fun _ _ _ h => h) (view_box N) (view_own N) hreps)
        have hcalls := hct w1 (G1.view N) _ hm hreps2
        have e1 : (Value.func (.yield l) #[] #[] :: cps.toList).toArray = #[.func (.yield l) #[] #[]] ++ cps := by simp
        rw [e1] at hcalls
        obtain ⟨en, w2, fr, hpost, hcomes, hfrfn, hleave⟩ := hcalls (b.atR { a with defers := mark ++ a.defers } (.inRangeFunc l :: k) :: cs)
        obtain ⟨G2, v, rfl, _, hle2, hr2⟩ := mem_fin hr1 hb1 hb2 (Nat.le_refl _) hv hvw p2 hpost
        have hsteps : Steps cx.P (lone (b.atR a (.code (.rangeFunc g ps asn bo) :: k)) cs w) (lone (b.atR { a with defers := mark ++ a.defers } (.endRangeFunc l :: k)) cs w2) := by
          refine (Steps.one henter).trans (Steps.trans hcomes (.one ?_))
          rw [← finish_atR_inRangeFunc l v]; exact step_leave_returned hleave
        split at h
        · rename_i st pe f' n' fr' ps' tag' D' hlk
          cases hnb : notBusy st <;> rw [hnb] at h <;> simp only [cond_true, cond_false, reduceCtorEq] at h
          obtain ⟨B, tmps, DB, i1, i2, ⟨asn', bo', _, i3⟩, i4, i5, i6⟩ := hr2.fin.mem.holds _ _ hlk
          have := hle2.box _ _ hl
          rw [this] at i1; injection i1 with i1; subst i1
          have hend := run_endLoop (P := cx.P) i3 (by intro e; simp only at e; subst e; cases hnb)
          have hst := stepR_endRangeFunc (b := b) (a := { a with defers := mark ++ a.defers }) (k := k) (cs := cs) hend
          have e2 : (Option.map Item.code (Option.map Jmp.code pe)).toList = jcode pe := by cases pe <;> rfl
          rw [e2] at hst
          exact ⟨pe, _, G2, { a with defers := mark ++ a.defers }, _, h, (hr2.nx (k := s1.nx + 16) (Nat.le_add_right _ _)).setBox (bx' := .dead) hlk (show G2.at s.nx (.loop st pe f' n' fr' ps' tag' D') = some l from this) (fun c hc => by cases hc) trivial i6, hsteps.trans (.one hst)⟩
        · cases h
      · cases hq
    · cases hq
  · cases hq
theorem rfR_ok (ok : cx.Ok body) (hr : Rel w₀ G₀ hp₀ G s a w) {p : List Nat} {g : Operand} {ps : Array Tmp} {asn bo : Code} (hsub : sub body p = .rangeFunc g ps asn bo)
    {K : Option Jmp → St → Option R} {x : R} (h : rfR cx p g ps.toList s K = some x) {b : Frame} (cs : List Frame) (hb : b.fn = cx.f) (hkind : b.kind = .normal) (hrd : RdOk cx G₀ hp₀ b) (k : List Item) :
    ∃ j s' G' a' w', K j s' = some x ∧ Rel w₀ G₀ hp₀ G' s' a' w' ∧ Steps cx.P (lone (b.atR a (.code (.rangeFunc g ps asn bo) :: k)) cs w) (lone (b.atR a' (jcode j ++ k)) cs w') := by
  unfold rfR at h
  split at h
  · rename_i q hq
    exact rfGo_ok ok hr hsub hq h cs hb hkind hrd k
  · split at h
    · rename_i s' hs'
      have : ∃ G', Rel w₀ G₀ hp₀ G' s' a w := by
        unfold rfPre at hs'
        split at hs'
        · split at hs'
          · split at hs'
            · have hs' := Option.some.inj hs'; subst hs'
              obtain ⟨G1, hr1⟩ := hr.frzL
              exact hr1.coB
            · cases hs'
          · cases hs'
        · cases hs'
      obtain ⟨G', hr'⟩ := this
      split at h
      · rename_i q hq
        exact rfGo_ok ok hr' hsub hq h cs hb hkind hrd k
      · cases h
    · cases h

def Goes (cx : Cx) (hp₀ : List (Nat × Box)) {R : Type} (enc : RS R) (k : List Item) (s : St) (r : R) : Prop :=
  ∀ (w₀ : World) (G₀ G : Gh) (a : Act) (w : World), Rel w₀ G₀ hp₀ G s a w → ∀ (b : Frame) (cs : List Frame), b.fn = cx.f → b.kind = .normal → RdOk cx G₀ hp₀ b →
    Arrives cx.P b.roundOf cx.f (lone (b.atR a k) cs w) cs fun v w' => ∃ G', Fin w₀ G₀ hp₀ G' (enc.res r).2 w' ∧ Rep (enc.res r).1 G' v
/-- where a body ends -/
def AtEnd (cx : Cx) (j : Option Jmp) (k : List Item) : Prop := match j with
  | none => k = []
  | some .ret => ∃ k', k = .code .ret :: k'
  | some (.exit id) => cx.rd ≠ none ∧ ∃ k', k = .code (.exit id) :: k' ∧ exitTo id k' = none
theorem endq_ok (ok : cx.Ok body) (hid : ∀ n bx, look hp₀ n = some bx → lookN cx.ids n = some n) {enc : RS R} {j : Option Jmp} {r : R} {k : List Item} (hk : AtEnd cx j k) (h : endq cx enc j s = some r) : Goes cx hp₀ enc k s r := by
  intro w₀ G₀ G a w hr b cs hb hkind hrd
  unfold endq at h
  unfold RdOk at hrd
  split at h
  · rename_i hrdn
    rw [hrdn] at hrd
    simp only at hrd
    split at h
    · rename_i s' hs'
      have h1 : Steps cx.P (lone (b.atR a k) cs w) (lone { b.atR a k with mode := .returning } cs w) := by
        cases j with
        | none => simp only [AtEnd] at hk; subst hk; exact .one (stepR_end hrd)
        | some j => cases j with
          | ret => obtain ⟨k', rfl⟩ := hk; exact .one (stepR_ret hrd)
          | exit id => exact absurd hrdn hk.1
      obtain ⟨w', i1, i2⟩ := closeDf_ok (P := cx.P) rfl hs' hr { b.atR a k with mode := .returning } cs rfl rfl
      obtain ⟨u, u1, u2⟩ := fin_ok (P := cx.P) i1 hid h
      rw [hrd]
      exact ⟨u, w', _, u2, h1.trans i2, hb, rfl, rfl, hkind, cx.fn, by rw [← ok.func, ← hb]; rfl, u1⟩
    · cases h
  · rename_i m hrdm
    rw [hrdm] at hrd
    simp only at hrd
    obtain ⟨B, bx0, e1, e2, e3⟩ := hrd
    cases hd : s.noDf <;> rw [hd] at h <;> simp only [cond_true, cond_false, reduceCtorEq] at h
    split at h
    · rename_i st pe f n fr ps tag D hl
      obtain ⟨B', tmps, DB, i1, i2, ⟨asn, bo, i3, i4⟩, i5, i6, i7⟩ := hr.fin.mem.holds _ _ hl
      have := hr.fin.keep m bx0 B e2 e1
      rw [this] at i1; injection i1 with i1; subst i1
      have hend := run_endRound (P := cx.P) (j.map Jmp.code) i4
      have hiso : (j.map Jmp.code).isNone = isNo j := by cases j <;> rfl
      rw [hiso] at hend
      have hst : (if isNo j = true then LoopState.ready else LoopState.done) = (bif isNo j then LoopState.ready else LoopState.done) := by cases isNo j <;> rfl
      rw [hst] at hend
      have hr2 := hr.setBox (bx' := .loop (bif isNo j then .ready else .done) j f n fr ps tag D) (o := .loop { state := bif isNo j then .ready else .done, pending := j.map Jmp.code, fn := f, tmps := tmps, params := ps.toArray, assign := asn, body := bo, defers := DB }) hl (show G.box m = some B from this)
        (fun c hc => by have hc : G.box m = some c := hc; rw [this] at hc; injection hc with hc; exact hc.symm)
        ⟨B, tmps, DB, this, i2, ⟨asn, bo, i3, by rw [World.putObj_heap_same (Array.getElem?_eq_some_iff.1 i4).1]⟩, i5, i6, i7⟩ i7
      have hfin := fin_ok (P := cx.P) hr2 hid h
      rw [e3]
      intro c cs' hcs
      subst hcs
      refine ⟨.bool (isNo j), _, hfin _ rfl, .one ?_⟩
      cases j with
      | none => simp only [AtEnd] at hk; subst hk; exact stepR_round_end e3 hkind hend
      | some j => cases j with
        | ret => obtain ⟨k', rfl⟩ := hk; exact stepR_round_ret e3 hkind hend
        | exit id => obtain ⟨_, k', rfl, hx⟩ := hk; exact stepR_round_exit e3 hkind hx hend
    · cases h
end
end Go.Sym
/- A body: what is emitted is what the machine does. -/
namespace Go.Sym
open Go.RowKit
variable [LC]

section
variable {hp₀ : List (Nat × Box)} {s : St} {cx : Cx} {body : Code} {R : Type} {enc : RS R}

theorem Goes.via {k k' : List Item} {s' : St} {r : R} (h : Goes cx hp₀ enc k' s' r) (hs : ∀ w₀ G₀ G a w, Rel w₀ G₀ hp₀ G s a w → ∀ (b : Frame) (cs : List Frame), b.fn = cx.f → b.kind = .normal → RdOk cx G₀ hp₀ b →
    ∃ G' a' w', Rel w₀ G₀ hp₀ G' s' a' w' ∧ Steps cx.P (lone (b.atR a k) cs w) (lone (b.atR a' k') cs w')) : Goes cx hp₀ enc k s r := by
  intro w₀ G₀ G a w hr b cs hb hk hrd
  obtain ⟨G', a', w', h1, h2⟩ := hs w₀ G₀ G a w hr b cs hb hk hrd
  exact (h w₀ G₀ G' a' w' h1 b cs hb hk hrd).head h2
theorem Goes.one {k k' : List Item} {r : R} (h : Goes cx hp₀ enc k' s r) (hs : ∀ (a : Act) (w : World) (b : Frame) (cs : List Frame), step cx.P (lone (b.atR a k) cs w) = .next (lone (b.atR a k') cs w)) : Goes cx hp₀ enc k s r :=
  h.via fun _ _ G a w hr b cs _ _ _ => ⟨G, a, w, hr, .one (hs a w b cs)⟩
def LabOk (cx : Cx) (hp₀ : List (Nat × Box)) {R : Type} (enc : RS R) (body : Code) (l : Lab R) : Prop := ∀ d r, l.F d = some r → Goes cx hp₀ enc (items (itemsAt body l.key)) (l.ls.st d) r
omit [LC] in
theorem pickLab_mem {ids : NM} {s : St} {k : List PIt} : ∀ {ls : List (Lab R)} {l : Lab R}, pickLab ids s k ls = some l → l ∈ ls ∧ eqKey l.key k = true
  | [], _, h => by cases h
  | x :: xs, l, h => by
    simp only [pickLab] at h
    cases hb : eqKey x.key k <;> rw [hb] at h <;> simp only [cond_true, cond_false] at h
    · obtain ⟨h1, h2⟩ := pickLab_mem h
      exact ⟨List.mem_cons_of_mem _ h1, h2⟩
    · split at h
      · simp only [Option.some.injEq] at h; subst h; exact ⟨List.mem_cons_self, hb⟩
      · rename_i l' hl
        split at h
        · simp only [Option.some.injEq] at h; subst h; exact ⟨List.mem_cons_self, hb⟩
        · simp only [Option.some.injEq] at h; subst h
          obtain ⟨h1, h2⟩ := pickLab_mem hl
          exact ⟨List.mem_cons_of_mem _ h1, h2⟩
omit [LC] in
theorem findLab_mem {k : List PIt} : ∀ {ls : List (Lab R)} {l : Lab R}, findLab k ls = some l → l ∈ ls ∧ eqKey l.key k = true
  | [], _, h => by cases h
  | x :: xs, l, h => by
    simp only [findLab] at h
    cases hb : eqKey x.key k <;> rw [hb] at h <;> simp only [cond_true, cond_false, Option.some.injEq] at h
    · obtain ⟨h1, h2⟩ := findLab_mem h
      exact ⟨List.mem_cons_of_mem _ h1, h2⟩
    · subst h; exact ⟨List.mem_cons_self, hb⟩
omit [LC] in
theorem ok_cons {i : PIt} {k : List PIt} (h : ∀ x ∈ i :: k, x.Ok body) : i.Ok body ∧ ∀ x ∈ k, x.Ok body := ⟨h _ List.mem_cons_self, fun x hx => h x (List.mem_cons_of_mem _ hx)⟩
omit [LC] in
theorem cons_ok {i : PIt} {k : List PIt} (h : i.Ok body) (k' : ∀ x ∈ k, x.Ok body) : ∀ x ∈ i :: k, x.Ok body := fun x hx => by
  rcases List.mem_cons.1 hx with rfl | hx
  · exact h
  · exact k' x hx
omit [LC] in
theorem code_sub {kd : Nat} {p : List Nat} {c : Code} (h : (PIt.mk kd p (.code c)).Ok body) : sub body p = c := itemAt_code h
omit [LC] in
theorem child_ok {p : List Nat} {c : Code} (i : Nat) {x : Code} (h : sub body p = c) (hc : child i c = x) : (PIt.mk 0 (i :: p) (.code x)).Ok body := by
  show Item.code x = .code (child i (sub body p))
  rw [h, hc]
omit [LC] in
theorem block_ok {p : List Nat} {id : Nat} {x : Code} (h : sub body p = .block id x) : (PIt.mk 1 p (.inBlock id)).Ok body := by
  show Item.inBlock id = (match sub body p with | .block id _ => .inBlock id | c => .code c)
  rw [h]
omit [LC] in
theorem loop_item_ok {p : List Nat} {x : Code} (h : sub body p = .loop x) : (PIt.mk 2 p (.inLoop x)).Ok body := by
  show Item.inLoop x = (match sub body p with | .loop x => .inLoop x | c => .code c)
  rw [h]
omit [LC] in
theorem stepR_inScope {P : Program} {b : Frame} {a : Act} {k : List Item} {cs : List Frame} {w : World} {x : Code} : step P (lone (b.atR a (.inScope x :: k)) cs w) = .next (lone (b.atR a k) cs w) :=
  step_lone_go (by simp [stepG, stepG.exec, Frame.atR])
omit [LC] in
theorem stepR_scope {P : Program} {b : Frame} {a : Act} {k : List Item} {cs : List Frame} {w : World} {c : Code} :
    step P (lone (b.atR a (.code (.scope c) :: k)) cs w) = .next (lone (b.atR a (.code c :: .inScope c :: k)) cs w) :=
  step_lone_go (by simp [stepG, stepG.exec, Frame.atR])
omit [LC] in
theorem scope_item_ok {p : List Nat} {x : Code} (h : sub body p = .scope x) : (PIt.mk 3 p (.inScope x)).Ok body := by
  show Item.inScope x = (match sub body p with | .scope x => .inScope x | c => .code c)
  rw [h]
omit [LC] in
theorem exitP_none {id : Nat} : ∀ {k : List PIt}, exitP id k = none → (∀ i ∈ k, i.Ok body) → exitTo id (items k) = none
  | [], _, _ => rfl
  | ⟨kd, p, it⟩ :: k, h, hk => by
    simp only [exitP] at h
    have hk' := (ok_cons hk).2
    split at h
    · rename_i id'
      split at h
      · cases h
      · rename_i he
        simp only [items, exitTo]; rw [if_neg he]; exact exitP_none h hk'
    · rename_i hne
      have := exitP_none h hk'
      simp only [items]
      cases it <;> first
        | (exfalso; exact hne _ rfl)
        | (simp only [exitTo]; exact this)
abbrev IH (cx : Cx) (hp₀ : List (Nat × Box)) {R : Type} (enc : RS R) (body : Code) (labs : List (Lab R)) (n : Nat) : Prop :=
  ∀ (chk : Bool) (k : List PIt) (s : St) (r : R), (∀ i ∈ k, i.Ok body) → run cx enc labs n chk k s = some r → Goes cx hp₀ enc (items k) s r
def runCode (cx : Cx) {R : Type} (enc : RS R) (labs : List (Lab R)) (n : Nat) (p : List Nat) (k' : List PIt) (s : St) (c : Code) : Option R := match c with
  | .skip => run cx enc labs n true k' s
  | .label _ => run cx enc labs n true k' s
  | .seq x y => run cx enc labs n true (⟨0, 0 :: p, .code x⟩ :: ⟨0, 1 :: p, .code y⟩ :: k') s
  | .cond c x y => match s.ev c with
    | some (.bool b) => bif b then run cx enc labs n true (⟨0, 0 :: p, .code x⟩ :: k') (s.know c true) else run cx enc labs n true (⟨0, 1 :: p, .code y⟩ :: k') (s.know c false)
    | some (.val (.bool b)) => bif b then run cx enc labs n true (⟨0, 0 :: p, .code x⟩ :: k') s else run cx enc labs n true (⟨0, 1 :: p, .code y⟩ :: k') s
    | _ => none
  | .block id x => run cx enc labs n true (⟨0, 0 :: p, .code x⟩ :: ⟨1, p, .inBlock id⟩ :: k') s
  | .loop x => run cx enc labs n true (⟨0, 0 :: p, .code x⟩ :: ⟨2, p, .inLoop x⟩ :: k') s
  | .scope x => run cx enc labs n true (⟨0, 0 :: p, .code x⟩ :: ⟨3, p, .inScope x⟩ :: k') s
  | .exit id => match exitP id k' with
    | some k'' => run cx enc labs n true k'' s
    | none => match cx.rd with
      | some _ => endq cx enc (some (.exit id)) s
      | none => none
  | .region _ ops d => bif d then drawX cx.P cx.tb ops s (fun s' => run cx enc labs n true k' s'.bump) else opsR cx.P cx.tb ops ops.toList s (fun s' => run cx enc labs n true k' s'.bump)
  | .ret => endq cx enc (some .ret) s
  | .rangeFunc g ps _ _ => rfR cx p g ps.toList s fun j s' => match j with
    | none => run cx enc labs n true k' s'
    | some .ret => endq cx enc (some .ret) s'
    | some (.exit id) => match exitP id k' with
      | some k'' => run cx enc labs n true k'' s'
      | none => match cx.rd with
        | some _ => endq cx enc (some (.exit id)) s'
        | none => none
  | _ => none
theorem run_cond {labs : List (Lab R)} {n : Nat} (ih : IH cx hp₀ enc body labs n) {p : List Nat} {k' : List PIt} {c : Operand} {x y : Code} {r : R} (hsub : sub body p = .cond c x y) (hk' : ∀ i ∈ k', i.Ok body) (h : runCode cx enc labs n p k' s (.cond c x y) = some r) : Goes cx hp₀ enc (.code (.cond c x y) :: items k') s r := by
  unfold runCode at h
  simp only at h
  split at h
  · rename_i t ht
    cases t <;> simp only [cond_true, cond_false] at h
    · refine (ih true _ _ r (cons_ok (child_ok 1 hsub rfl) hk') h).via fun w₀ G₀ G a w hr b cs _ _ _ => ?_
      have he : a.eval c = .bool false := ev_ok hr ht
      exact ⟨G, a, w, hr.know he, .one (stepR_cond he)⟩
    · refine (ih true _ _ r (cons_ok (child_ok 0 hsub rfl) hk') h).via fun w₀ G₀ G a w hr b cs _ _ _ => ?_
      have he : a.eval c = .bool true := ev_ok hr ht
      exact ⟨G, a, w, hr.know he, .one (stepR_cond he)⟩
  · rename_i t ht
    cases t <;> simp only [cond_true, cond_false] at h
    · refine (ih true _ _ r (cons_ok (child_ok 1 hsub rfl) hk') h).via fun w₀ G₀ G a w hr b cs _ _ _ => ?_
      have he : a.eval c = .bool false := ev_ok hr ht
      exact ⟨G, a, w, hr, .one (stepR_cond he)⟩
    · refine (ih true _ _ r (cons_ok (child_ok 0 hsub rfl) hk') h).via fun w₀ G₀ G a w hr b cs _ _ _ => ?_
      have he : a.eval c = .bool true := ev_ok hr ht
      exact ⟨G, a, w, hr, .one (stepR_cond he)⟩
  · cases h
theorem run_region (ok : cx.Ok body) {labs : List (Lab R)} {n : Nat} (ih : IH cx hp₀ enc body labs n) {p : List Nat} {k' : List PIt} {id : Nat} {ops : Array Oper} {d : Bool} {r : R} (hk' : ∀ i ∈ k', i.Ok body) (h : runCode cx enc labs n p k' s (.region id ops d) = some r) : Goes cx hp₀ enc (.code (.region id ops d) :: items k') s r := by
  unfold runCode at h
  simp only at h
  cases d <;> simp only [cond_true, cond_false] at h
  · intro w₀ G₀ G a w hr b cs hb hkd hrd
    have hops := opsR_ok (P := cx.P) (ops := ops) ok.ents (N := fun a' w' => Arrives cx.P b.roundOf cx.f (lone (b.atR a' (items k')) cs w') cs fun v w' => ∃ G', Fin w₀ G₀ hp₀ G' (enc.res r).2 w' ∧ Rep (enc.res r).1 G' v)
      (fun s' h' G' a' w' hr' => ih true k' s'.bump r hk' h' w₀ G₀ G' a' w' hr'.bump b cs hb hkd hrd) ops.toList 0 s G a w (fun j hj => by simp) h hr
    have e : List.range' 0 ops.toList.length = List.range ops.size := by simp [List.range_eq_range']
    rw [e] at hops
    obtain ⟨a', w', h1, h2⟩ := dRegion (id := id) hops b (items k') cs hkd
    exact h1.head h2
  · intro w₀ G₀ G a w hr b cs hb hkd hrd
    obtain ⟨a', w', h1, h2⟩ := drawX_ok (P := cx.P) ok.ents ok.mixed h (N := fun a' w' => Arrives cx.P b.roundOf cx.f (lone (b.atR a' (items k')) cs w') cs fun v w' => ∃ G', Fin w₀ G₀ hp₀ G' (enc.res r).2 w' ∧ Rep (enc.res r).1 G' v)
      (fun s' h' G' a' w' hr' => ih true k' s'.bump r hk' h' w₀ G₀ G' a' w' hr'.bump b cs hb hkd hrd) hr id b (items k') cs hkd
    exact h1.head h2
theorem run_exit (ok : cx.Ok body) (hid : ∀ n bx, look hp₀ n = some bx → lookN cx.ids n = some n) {labs : List (Lab R)} {n : Nat} (ih : IH cx hp₀ enc body labs n) {k' : List PIt} {id : Nat} {r : R} (hk' : ∀ i ∈ k', i.Ok body)
    (h : (match exitP id k' with
      | some k'' => run cx enc labs n true k'' s
      | none => match cx.rd with
        | some _ => endq cx enc (some (.exit id)) s
        | none => none) = some r) : Goes cx hp₀ enc (.code (.exit id) :: items k') s r := by
  split at h
  · rename_i k'' hx
    obtain ⟨h1, h2⟩ := exitP_some hx
    exact (ih true k'' s r (fun i hi => hk' i (h2 i hi)) h).one fun a w b cs => stepR_exit h1
  · rename_i hx
    split at h
    · rename_i m hm
      exact endq_ok ok hid (j := some (.exit id)) ⟨by rw [hm]; simp, _, rfl, exitP_none hx hk'⟩ h
    · cases h
theorem run_range (ok : cx.Ok body) (hid : ∀ n bx, look hp₀ n = some bx → lookN cx.ids n = some n) {labs : List (Lab R)} {n : Nat} (ih : IH cx hp₀ enc body labs n) {p : List Nat} {k' : List PIt} {g : Operand} {ps : Array Tmp} {asn bo : Code} {r : R} (hsub : sub body p = .rangeFunc g ps asn bo) (hk' : ∀ i ∈ k', i.Ok body)
    (h : runCode cx enc labs n p k' s (.rangeFunc g ps asn bo) = some r) : Goes cx hp₀ enc (.code (.rangeFunc g ps asn bo) :: items k') s r := by
  unfold runCode at h
  simp only at h
  intro w₀ G₀ G a w hr b cs hb hkd hrd
  obtain ⟨j, s', G', a', w', h1, h2, h3⟩ := rfR_ok ok hr hsub h cs hb hkd hrd (items k')
  refine Arrives.head h3 ?_
  cases j with
  | none => exact ih true k' s' r hk' h1 w₀ G₀ G' a' w' h2 b cs hb hkd hrd
  | some j => cases j with
    | ret => exact endq_ok ok hid (j := some .ret) (k := .code .ret :: items k') ⟨_, rfl⟩ h1 w₀ G₀ G' a' w' h2 b cs hb hkd hrd
    | exit id => exact run_exit ok hid ih hk' h1 w₀ G₀ G' a' w' h2 b cs hb hkd hrd
theorem run_code (ok : cx.Ok body) (hid : ∀ n bx, look hp₀ n = some bx → lookN cx.ids n = some n) {labs : List (Lab R)} {n : Nat} (ih : IH cx hp₀ enc body labs n) {kd : Nat} {p : List Nat} {k' : List PIt} {c : Code} {r : R} (hi : (PIt.mk kd p (.code c)).Ok body) (hk' : ∀ i ∈ k', i.Ok body)
    (h : runCode cx enc labs n p k' s c = some r) : Goes cx hp₀ enc (.code c :: items k') s r := by
  have hsub := code_sub hi
  cases c with
  | skip => exact (ih true k' s r hk' h).one fun a w b cs => stepR_skip
  | label l => exact (ih true k' s r hk' h).one fun a w b cs => stepR_label
  | seq x y => exact (ih true _ s r (cons_ok (child_ok 0 hsub rfl) (cons_ok (child_ok 1 hsub rfl) hk')) h).one fun a w b cs => stepR_seq
  | cond c x y => exact run_cond ih hsub hk' h
  | block id x => exact (ih true _ s r (cons_ok (child_ok 0 hsub rfl) (cons_ok (block_ok hsub) hk')) h).one fun a w b cs => stepR_block
  | loop x => exact (ih true _ s r (cons_ok (child_ok 0 hsub rfl) (cons_ok (loop_item_ok hsub) hk')) h).one fun a w b cs => stepR_loop
  | scope x => exact (ih true _ s r (cons_ok (child_ok 0 hsub rfl) (cons_ok (scope_item_ok hsub) hk')) h).one fun a w b cs => stepR_scope
  | exit id => exact run_exit ok hid ih hk' h
  | region id ops d => exact run_region ok ih hk' h
  | ret => exact endq_ok ok hid (j := some .ret) ⟨_, rfl⟩ h
  | rangeFunc g ps asn bo => exact run_range ok hid ih hsub hk' h
  | _ => cases h
theorem run_begin {labs : List (Lab R)} {n : Nat} (ih : IH cx hp₀ enc body labs n) {k' : List PIt} {r : R} (hk' : ∀ i ∈ k', i.Ok body)
    (h : (match cx.rd with
      | some m => match look s.hp m with
        | some (.loop .ready pe f n' fr ps tag D) => run cx enc labs n true k' { s with hp := (m, .loop .busy pe f n' fr ps tag D) :: s.hp }
        | _ => none
      | none => none) = some r) : Goes cx hp₀ enc (.beginRound :: items k') s r := by
  split at h
  · rename_i m hm
    split at h
    · rename_i pe f n' fr ps tag D hl
      refine (ih true k' _ r hk' h).via fun w₀ G₀ G a w hr b cs _ _ hrd => ?_
      unfold RdOk at hrd
      rw [hm] at hrd
      simp only at hrd
      obtain ⟨B, bx0, e1, e2, e3⟩ := hrd
      obtain ⟨B', tmps, DB, i1, i2, ⟨asn, bo, i3, i4⟩, i5, i6, i7⟩ := hr.fin.mem.holds _ _ hl
      have := hr.fin.keep m bx0 B e2 e1
      rw [this] at i1; injection i1 with i1; subst i1
      have hbr := run_beginRound (P := cx.P) i4 rfl
      exact ⟨G, a, _, hr.setBox (bx' := .loop .busy pe f n' fr ps tag D) hl (show G.box m = some B from this)
        (fun c hc => by have hc : G.box m = some c := hc; rw [this] at hc; injection hc with hc; exact hc.symm)
        ⟨B, tmps, DB, this, i2, ⟨asn, bo, i3, by rw [World.putObj_heap_same (Array.getElem?_eq_some_iff.1 i4).1]⟩, i5, i6, i7⟩ i7, .one (stepR_beginRound e3 hbr)⟩
    · cases h
  · cases h
theorem run_ok (ok : cx.Ok body) (hid : ∀ n bx, look hp₀ n = some bx → lookN cx.ids n = some n) {labs : List (Lab R)} (hlab : ∀ l ∈ labs, LabOk cx hp₀ enc body l) :
    ∀ (n : Nat) (chk : Bool) (k : List PIt) (s : St) (r : R), (∀ i ∈ k, i.Ok body) → run cx enc labs n chk k s = some r → Goes cx hp₀ enc (items k) s r := by
  intro n
  induction n with
  | zero => intro chk k s r _ h; cases h
  | succ n ih =>
    intro chk k s r hk h
    unfold run at h
    cases hl : (bif chk then pickLab cx.ids s k labs else none) with
    | some lab =>
      rw [hl] at h
      have hl : pickLab cx.ids s k labs = some lab := by cases chk <;> simp only [cond_true, cond_false, reduceCtorEq] at hl; exact hl
      obtain ⟨hm, hkey⟩ := pickLab_mem hl
      simp only at h
      split at h
      · rename_i d hd
        have hg := hlab lab hm d r h
        rw [eqKey_items hkey hk] at hg
        refine hg.via fun w₀ G₀ G a w hr b cs _ _ _ => ?_
        obtain ⟨G1, hr1⟩ := hr.co lab.ls cx.ids
        obtain ⟨G2, hr2⟩ := hr1.fit hid hd
        exact ⟨G2, a, w, hr2, .refl _ _⟩
      · cases h
    | none =>
      rw [hl] at h
      simp only at h
      clear hl
      cases k with
      | nil => exact endq_ok ok hid (by rfl) h
      | cons i k' =>
        obtain ⟨kd, p, it⟩ := i
        obtain ⟨hi, hk'⟩ := ok_cons hk
        clear hk
        cases it with
        | code c => exact run_code ok hid ih hi hk' h
        | inBlock id => exact (ih true k' s r hk' h).one fun a w b cs => stepR_inBlock
        | inScope id => exact (ih true k' s r hk' h).one fun a w b cs => stepR_inScope
        | inLoop x =>
          have hsub : sub body p = .loop x := itemAt_loop hi
          exact (ih true _ s r (cons_ok (child_ok 0 hsub rfl) (cons_ok (loop_item_ok hsub) hk')) h).one fun a w b cs => stepR_inLoop
        | beginRound => exact run_begin ih hk' h
        | _ => cases h
end
end Go.Sym
/- Own slices in boxes under new names. -/
namespace Go.Sym
open Go.RowKit
variable [LC]

/-- the own slice in a cell of a box, under a new name -/
def St.reCell (s : St) (b off : Nat) : St :=
  match look s.hp b with
  | some (.cells cs T) => match cs[off]? with
    | some (.own k) => match look s.hp k with
      | some (.row τ l E) => bif noRange s.nx s.hp then { s with hp := (b, .cells (cs.set off (.own s.nx)) T) :: (s.nx, .row τ l E) :: (k, .dead) :: s.hp, nx := s.nx + 16 } else s
      | _ => s
    | _ => s
  | _ => s
def isOwnP : Pt → Bool
  | .own _ => true
  | _ => false
def reB1 (b : Nat) : List Pt → Nat → St → St
  | [], _, s => s
  | p :: ps, off, s => reB1 b ps (off + 1) (bif isOwnP p then s.reCell b off else s)
def reB : List (Nat × BPt) → St → St
  | [], s => s
  | (n, p) :: r, s => match p with
    | .cells ps _ => reB r (reB1 n ps 0 s)
    | _ => reB r s
/-- the own slice in a slot, under a new name -/
def St.reSlot (s : St) (i : Nat) : St :=
  match look s.fr i with
  | some (.own k) => match look s.hp k with
    | some (.row τ l E) => bif noRange s.nx s.hp && Nat.blt i s.n then { s with fr := (i, .own s.nx) :: s.fr, hp := (s.nx, .row τ l E) :: (k, .dead) :: s.hp, nx := s.nx + 16 } else s
    | _ => s
  | _ => s
def reA : List Pt → Nat → St → St
  | [], _, s => s
  | p :: ps, i, s => reA ps (i + 1) (bif isOwnP p then s.reSlot i else s)
section
variable {w₀ : World} {G₀ : Gh} {hp₀ : List (Nat × Box)} {G : Gh} {s : St} {a : Act} {w : World}
theorem Fin.rename {hp : List (Nat × Box)} (hf : Fin w₀ G₀ hp₀ G hp w) {k k' : Nat} {τ : Ty} {l : List τ.den} {E : TypeId} {v : Option Addr × Nat × Nat} (hk : look hp k = some (.row τ l E)) (hk' : look hp k' = none) (hfr : G.own k' = none) (ho : G.own k = some v) :
    Fin w₀ G₀ hp₀ (G.addOwn k' v) ((k', .row τ l E) :: (k, .dead) :: hp) w := by
  have hle : G.le (G.addOwn k' v) := Gh.addOwn_le hfr
  have hlk : ∀ m b, look ((k', Box.row τ l E) :: (k, .dead) :: hp) m = some b → (m = k' ∧ b = .row τ l E) ∨ b = .dead ∨ (m ≠ k ∧ look hp m = some b) := fun m b h => by
    simp only [look] at h
    cases hb : Nat.beq k' m
    · rw [hb] at h
      cases hb2 : Nat.beq k m
      · rw [hb2] at h; exact .inr (.inr ⟨fun e => by subst e; simp at hb2, h⟩)
      · rw [hb2] at h; simp only [cond_true, cond_false, Option.some.injEq] at h; exact .inr (.inl h.symm)
    · rw [hb] at h; simp only [cond_true, Option.some.injEq] at h; exact .inl ⟨(Nat.eq_of_beq_eq_true hb).symm, h.symm⟩
  have hat : (G.addOwn k' v).at k' (.row τ l E) = G.at k (.row τ l E) := by simp only [Gh.at, Gh.addOwn_self, ho]
  refine ⟨⟨hf.mem.agree, hf.mem.one, ?_, ?_⟩, hf.bel, hf.imm_le, hf.imm_new, ?_, fun n bx B h1 h2 => hle.box _ _ (hf.keep n bx B h1 h2), fun n bx B h1 h2 => hle.own _ _ (hf.keepOwn n bx B h1 h2)⟩
  · intro m b h
    rcases hlk m b h with ⟨rfl, rfl⟩ | rfl | ⟨_, h⟩
    · obtain ⟨ad, c, i1, i2⟩ := hf.mem.holds k _ hk
      rw [ho] at i1; injection i1 with i1; subst i1
      exact ⟨ad, c, Gh.addOwn_self, i2⟩
    · trivial
    · exact (hf.mem.holds m b h).mono hle (fun _ _ => rfl) (fun _ _ _ h => .inl h)
  · intro m m' b b' c h1 h2 h3 h4
    rcases hlk m b h1 with ⟨rfl, rfl⟩ | rfl | ⟨n1, g1⟩ <;> rcases hlk m' b' h2 with ⟨e2, rfl⟩ | rfl | ⟨n2, g2⟩
    · exact e2.symm
    · cases h4
    · rw [hat] at h3
      rw [(hf.mem.holds m' b' g2).at_le hle] at h4
      exact absurd (hf.mem.apart m' k b' _ c g2 hk h4 h3) n2
    · cases h3
    · cases h3
    · cases h3
    · subst e2
      rw [hat] at h4
      rw [(hf.mem.holds m b g1).at_le hle] at h3
      exact absurd (hf.mem.apart m k b _ c g1 hk h3 h4) n1
    · cases h4
    · rw [(hf.mem.holds m b g1).at_le hle] at h3
      rw [(hf.mem.holds m' b' g2).at_le hle] at h4
      exact hf.mem.apart m m' b b' c g1 g2 h3 h4
  · intro m b c h1 h2
    rcases hlk m b h1 with ⟨rfl, rfl⟩ | rfl | ⟨n1, h1⟩
    · rw [hat] at h2; exact hf.base k _ c hk h2
    · cases h2
    · rw [(hf.mem.holds m b h1).at_le hle] at h2
      exact hf.base m b c h1 h2
theorem Rel.reCell (hr : Rel w₀ G₀ hp₀ G s a w) (b off : Nat) : ∃ G', Rel w₀ G₀ hp₀ G' (s.reCell b off) a w := by
  unfold St.reCell
  split
  · rename_i cs T hb0
    split
    · rename_i k hx0
      split
      · rename_i τ l E hk0
        cases hn : noRange s.nx s.hp
        · exact ⟨G, hr⟩
        · simp only [cond_true]
          have hk := noRange_look hn s.nx (Nat.le_refl _) (by omega)
          obtain ⟨ad, c, i1, _⟩ := hr.fin.mem.holds k _ hk0
          have hfresh := hr.fresh s.nx (Nat.le_refl _) hk
          have hle : G.le (G.addOwn s.nx (ad, l.length, c)) := Gh.addOwn_le hfresh.2
          have hf := hr.fin.rename hk0 hk hfresh.2 i1
          have hne : s.nx ≠ b := fun e => by rw [e, hb0] at hk; cases hk
          have hne2 : k ≠ b := fun e => by rw [e, hb0] at hk0; cases hk0
          have hb1 : look ((s.nx, Box.row τ l E) :: (k, .dead) :: s.hp) b = some (.cells cs T) := by
            simp only [look]
            cases hq : Nat.beq s.nx b
            · cases hq2 : Nat.beq k b
              · exact hb0
              · exact absurd (Nat.eq_of_beq_eq_true hq2) hne2
            · exact absurd (Nat.eq_of_beq_eq_true hq) hne
          obtain ⟨B, vs, k1, k2, k3, k4, k5⟩ := hf.mem.holds _ _ hb1
          have hv : vs.toList[off]? = some (.slice ad l.length c) := by
            obtain ⟨v, h1, h2⟩ := reps_get k3 hx0
            obtain ⟨a', n', c', q1, q2⟩ := h2
            rw [hle.own _ _ i1] at q1
            simp only [Option.some.injEq, Prod.mk.injEq] at q1
            obtain ⟨rfl, rfl, rfl⟩ := q1
            subst q2; exact h1
          have hset : vs.toList.set off (.slice ad l.length c) = vs.toList := by
            obtain ⟨hlt, he⟩ := List.getElem?_eq_some_iff.1 hv
            rw [← he, List.set_getElem_self]
          refine ⟨G.addOwn s.nx (ad, l.length, c), ⟨by obtain ⟨bs, q1, q2⟩ := hr.defers; exact ⟨bs, q1, defers_le hle.box q2⟩, hr.size, fun j x hx => by obtain ⟨v, h1, h2⟩ := hr.frame j x hx; exact ⟨v, h1, h2.le hle⟩, fun m hm hl => ?_, ?_⟩⟩
          · simp only at hm
            have hmn : s.nx ≠ m := by omega
            simp only [look] at hl
            cases hq : Nat.beq b m <;> rw [hq] at hl <;> simp only [cond_true, cond_false, reduceCtorEq] at hl
            cases hq1 : Nat.beq s.nx m <;> rw [hq1] at hl <;> simp only [cond_true, cond_false, reduceCtorEq] at hl
            cases hq2 : Nat.beq k m <;> rw [hq2] at hl <;> simp only [cond_true, cond_false, reduceCtorEq] at hl
            obtain ⟨h1, h2⟩ := hr.fresh m (by omega) hl
            refine ⟨h1, ?_⟩
            show (bif Nat.beq m s.nx then some _ else G.own m) = none
            cases hbm : Nat.beq m s.nx
            · exact h2
            · exact absurd (Nat.eq_of_beq_eq_true hbm).symm hmn
          · refine hf.update (bx := .cells cs T) (bx' := .cells (cs.set off (.own s.nx)) T) hb1 (B := B) k1 k1 ⟨rfl, rfl, rfl, Nat.le_refl _, fun _ _ _ => rfl⟩ ⟨B, vs, k1, k2, ?_, k4, k5⟩ k5
            have := reps_set off k3 (x := .own s.nx) (v := .slice ad l.length c) ⟨ad, l.length, c, Gh.addOwn_self, rfl⟩
            rwa [hset] at this
      · exact ⟨G, hr⟩
    · exact ⟨G, hr⟩
  · exact ⟨G, hr⟩
theorem Rel.reSlot (hr : Rel w₀ G₀ hp₀ G s a w) (i : Nat) : ∃ G', Rel w₀ G₀ hp₀ G' (s.reSlot i) a w := by
  unfold St.reSlot
  split
  · rename_i k hx0
    split
    · rename_i τ l E hk0
      cases hn : noRange s.nx s.hp && Nat.blt i s.n
      · exact ⟨G, hr⟩
      · simp only [cond_true]
        simp only [Bool.and_eq_true] at hn
        have hk := noRange_look hn.1 s.nx (Nat.le_refl _) (by omega)
        obtain ⟨ad, c, i1, _⟩ := hr.fin.mem.holds k _ hk0
        have hfresh := hr.fresh s.nx (Nat.le_refl _) hk
        have hle : G.le (G.addOwn s.nx (ad, l.length, c)) := Gh.addOwn_le hfresh.2
        refine ⟨G.addOwn s.nx (ad, l.length, c), ⟨by obtain ⟨bs, q1, q2⟩ := hr.defers; exact ⟨bs, q1, defers_le hle.box q2⟩, hr.size, fun j x hx => ?_, fun m hm hl => ?_, hr.fin.rename hk0 hk hfresh.2 i1⟩⟩
        · simp only [look] at hx
          cases hq : Nat.beq i j
          · rw [hq] at hx
            obtain ⟨v, h1, h2⟩ := hr.frame j x hx
            exact ⟨v, h1, h2.le hle⟩
          · rw [hq] at hx; simp only [cond_true, Option.some.injEq] at hx; subst hx
            have := Nat.eq_of_beq_eq_true hq; subst this
            obtain ⟨v, h1, a', n', c', q1, q2⟩ := hr.frame i _ hx0
            rw [i1] at q1
            simp only [Option.some.injEq, Prod.mk.injEq] at q1
            obtain ⟨rfl, rfl, rfl⟩ := q1
            exact ⟨v, h1, ad, l.length, c, Gh.addOwn_self, q2⟩
        · simp only at hm
          have hmn : s.nx ≠ m := by omega
          simp only [look] at hl
          cases hq1 : Nat.beq s.nx m <;> rw [hq1] at hl <;> simp only [cond_true, cond_false, reduceCtorEq] at hl
          cases hq2 : Nat.beq k m <;> rw [hq2] at hl <;> simp only [cond_true, cond_false, reduceCtorEq] at hl
          obtain ⟨h1, h2⟩ := hr.fresh m (by omega) hl
          refine ⟨h1, ?_⟩
          show (bif Nat.beq m s.nx then some _ else G.own m) = none
          cases hbm : Nat.beq m s.nx
          · exact h2
          · exact absurd (Nat.eq_of_beq_eq_true hbm).symm hmn
    · exact ⟨G, hr⟩
  · exact ⟨G, hr⟩
theorem Rel.reA : ∀ {ps : List Pt} {i : Nat} {s : St} {G : Gh}, Rel w₀ G₀ hp₀ G s a w → ∃ G', Rel w₀ G₀ hp₀ G' (reA ps i s) a w
  | [], _, s, G, hr => ⟨G, hr⟩
  | p :: ps, i, s, G, hr => by
    unfold Sym.reA
    cases isOwnP p
    · exact Rel.reA hr
    · obtain ⟨G', hr'⟩ := hr.reSlot i
      exact Rel.reA hr'
theorem Rel.reB1 {b : Nat} : ∀ {ps : List Pt} {off : Nat} {s : St} {G : Gh}, Rel w₀ G₀ hp₀ G s a w → ∃ G', Rel w₀ G₀ hp₀ G' (reB1 b ps off s) a w
  | [], _, s, G, hr => ⟨G, hr⟩
  | p :: ps, off, s, G, hr => by
    unfold Sym.reB1
    cases isOwnP p
    · exact Rel.reB1 hr
    · obtain ⟨G', hr'⟩ := hr.reCell b off
      exact Rel.reB1 hr'
theorem Rel.reB : ∀ {l : List (Nat × BPt)} {s : St} {G : Gh}, Rel w₀ G₀ hp₀ G s a w → ∃ G', Rel w₀ G₀ hp₀ G' (reB l s) a w
  | [], s, G, hr => ⟨G, hr⟩
  | (n, p) :: r, s, G, hr => by
    unfold Sym.reB
    split
    · obtain ⟨G', hr'⟩ := hr.reB1
      exact Rel.reB hr'
    · exact Rel.reB hr
end
end Go.Sym
/- Entries out of bodies. -/
namespace Go.Sym
open Go.RowKit
variable [LC]

def idsB : List (Nat × BPt) → NM
  | [] => []
  | (n, _) :: r => (n, n) :: idsB r
def inN (N : NM) (n : Nat) : Bool := match rho N n with
  | some m => Nat.beq m n
  | none => false
omit [LC] in
theorem inN_eq {N : NM} {n : Nat} (h : inN N n = true) : rho N n = some n := by
  unfold inN at h
  split at h
  · rename_i m hm
    have := Nat.eq_of_beq_eq_true h; subst this; exact hm
  · cases h
mutual
def ptIn (N : NM) : Pt → Bool
  | .agg ps => ptsIn N ps
  | .tup ps => ptsIn N ps
  | .ptr b _ => inN N b
  | .own k => inN N k
  | .el k _ => inN N k
  | .iel _ k _ => inN N k
  | .yld k => inN N k
  | .fn _ ps => ptsIn N ps
  | _ => true
def ptsIn (N : NM) : List Pt → Bool
  | [] => true
  | p :: ps => ptIn N p && ptsIn N ps
end
omit [LC] in
theorem av_ren {ρ : Nat → Option Nat} : ∀ {τ : Ty} {d : τ.den}, (τ.av d).ren ρ = τ.av d
  | .int _, _ => rfl
  | .byte, _ => rfl
  | .bool, _ => rfl
  | .str, _ => rfl
  | .unit, _ => rfl
  | .list _, _ => rfl
  | .prod a b, d => by show AV.agg (AV.rens ρ ((Ty.prod a b).enc d)) = _; rw [Ty.enc_ren]; rfl
  | .tree a, d => by show AV.agg (AV.rens ρ ((Ty.tree a).enc d)) = _; rw [Ty.enc_ren]; rfl
omit [LC] in
mutual
theorem put_ren {N : NM} : ∀ {p : Pt} {d : p.den}, ptIn N p = true → (p.put d).ren (rho N) = p.put d
  | .h τ, d, _ => av_ren
  | .c _, _, _ => rfl
  | .agg ps, d, h => congrArg AV.agg (puts_ren (ps := ps) (d := d) h)
  | .tup ps, d, h => congrArg AV.tup (puts_ren (ps := ps) (d := d) h)
  | .ptr b off, _, h => by show AV.ren (rho N) (.ptr b off) = _; simp only [AV.ren, inN_eq (show inN N b = true from h)]; rfl
  | .own k, _, h => by show AV.ren (rho N) (.own k) = _; simp only [AV.ren, inN_eq (show inN N k = true from h)]; rfl
  | .arr _, _, _ => rfl
  | .el k sz, _, h => by show AV.ren (rho N) (.oel k sz 0 0) = _; simp only [AV.ren, inN_eq (show inN N k = true from h)]; rfl
  | .iel t k sz, _, h => by show AV.ren (rho N) (.iface t (.oel k sz 0 0)) = _; simp only [AV.ren, inN_eq (show inN N k = true from h)]; rfl
  | .yld k, _, h => by show AV.ren (rho N) (.yld k) = _; simp only [AV.ren, inN_eq (show inN N k = true from h)]; rfl
  | .fn f ps, d, h => congrArg (AV.fn (.func f) []) (puts_ren (ps := ps) (d := d) h)
  | .u, _, _ => rfl
theorem puts_ren {N : NM} : ∀ {ps : List Pt} {d : Pts.den ps}, ptsIn N ps = true → AV.rens (rho N) (Pts.put ps d) = Pts.put ps d
  | [], _, _ => rfl
  | p :: ps, d, h => by
    simp only [ptsIn, Bool.and_eq_true] at h
    have h1 := put_ren (p := p) (d := d.1) h.1
    have h2 := puts_ren (ps := ps) (d := d.2) h.2
    show AV.ren (rho N) (p.put d.1) :: AV.rens (rho N) (Pts.put ps d.2) = p.put d.1 :: Pts.put ps d.2
    rw [h1, h2]
end
def fIn (N : NM) : List (Nat × Pt) → Bool
  | [] => true
  | (_, p) :: r => ptIn N p && fIn N r
omit [LC] in
theorem fput_ren {N : NM} : ∀ {l : List (Nat × Pt)} {d : fden l}, fIn N l = true → renFr (rho N) (fput l d) = fput l d
  | [], _, _ => rfl
  | (i, p) :: r, d, h => by
    simp only [fIn, Bool.and_eq_true] at h
    have h1 := put_ren (p := p) (d := d.1) h.1
    have h2 := fput_ren (l := r) (d := d.2) h.2
    show (i, AV.ren (rho N) (p.put d.1)) :: renFr (rho N) (fput r d.2) = (i, p.put d.1) :: fput r d.2
    rw [h1, h2]
def bptIn (N : NM) : BPt → Bool
  | .cells ps _ => ptsIn N ps
  | .loop _ _ _ _ fr _ _ D => inN N D && fIn N fr
  | _ => true
def bIn (N : NM) : List (Nat × BPt) → Bool
  | [] => true
  | (n, p) :: r => inN N n && bptIn N p && bIn N r
omit [LC] in
theorem bptIn_ren {N : NM} : ∀ {p : BPt} {d : p.den}, bptIn N p = true → renB (rho N) (p.put d) = p.put d
  | .cells ps T, d, h => congrArg (fun l => Box.cells l T) (puts_ren (ps := ps) (d := d) h)
  | .row _ _, _, _ => rfl
  | .loop st pe f n fr ps tag D, d, h => by
    simp only [bptIn, Bool.and_eq_true] at h
    have h2 := fput_ren (l := fr) (d := d) h.2
    have h3 : renB (rho N) (.loop st pe f n (fput fr d) ps tag D) = .loop st pe f n (renFr (rho N) (fput fr d)) ps tag D := by simp only [renB, inN_eq h.1]
    exact h3.trans (congrArg (fun l => Box.loop st pe f n l ps tag D) h2)
  | .dfr, _, _ => rfl
  | .it, _, _ => rfl
  | .dead, _, _ => rfl
  | .dat τ T, d, _ => congrArg (fun l => Box.cells l T) (Ty.enc_ren (rho N) τ d)
omit [LC] in
theorem bIn_look {N : NM} : ∀ {l : List (Nat × BPt)} {d : bden l}, bIn N l = true → ∀ n b, look (bput l d) n = some b → rho N n = some n ∧ renB (rho N) b = b
  | [], _, _, _, _, h => by cases h
  | (m, p) :: r, d, h, n, b, hl => by
    simp only [bIn, Bool.and_eq_true] at h
    have hl : (bif Nat.beq m n then some (p.put d.1) else look (bput r d.2) n) = some b := hl
    cases hb : Nat.beq m n
    · rw [hb] at hl; exact bIn_look (d := d.2) h.2 n b hl
    · rw [hb] at hl; have := Nat.eq_of_beq_eq_true hb; subst this
      simp only [cond_true, Option.some.injEq] at hl; subst hl
      exact ⟨inN_eq h.1.1, bptIn_ren h.1.2⟩
/-- only the names of the memory handed in -/
theorem Mem.only {G : Gh} {hp : List (Nat × Box)} {w : World} {N : NM} (hm : Mem G hp w) (h : ∀ n b, look hp n = some b → rho N n = some n ∧ renB (rho N) b = b) : Mem (G.view N) hp w := by
  have hb : ∀ n b, look hp n = some b → (G.view N).box n = G.box n ∧ (G.view N).own n = G.own n := fun n b hl => by
    have := rho_spec (h n b hl).1
    exact ⟨by simp [Gh.view, this], by simp [Gh.view, this]⟩
  have hat : ∀ n b c, look hp n = some b → (G.view N).at n b = some c → G.at n b = some c := fun n b c hl hc => by
    have := (h n b hl).2
    exact at_ren (G := G) (G' := G.view N) (ρ := rho N) (hb n b hl).1 (hb n b hl).2 (by rw [this]; exact hc)
  refine ⟨hm.agree, hm.one, fun n b hl => ?_, fun n m b b' c h1 h2 h3 h4 => hm.apart n m b b' c h1 h2 (hat _ _ _ h1 h3) (hat _ _ _ h2 h4)⟩
  have := BoxOk.ren (G := G) (G' := G.view N) (ρ := rho N) (n := n) (m := n) (fun _ _ _ h => h) (fun _ _ _ h => h) (view_box N) (view_own N) (fun B hB => by rw [(hb n b hl).1]; exact hB) (fun B hB => by rw [(hb n b hl).2]; exact hB) (hm.holds n b hl)
  rw [(h n b hl).2] at this
  exact this
theorem Fin.only {G G' : Gh} {hp hp' : List (Nat × Box)} {w w' : World} {N : NM} (h : ∀ n b, look hp n = some b → rho N n = some n ∧ renB (rho N) b = b) (hf : Fin w (G.view N) hp G' hp' w') : Fin w G hp G' hp' w' := by
  have hb : ∀ n b, look hp n = some b → (G.view N).box n = G.box n ∧ (G.view N).own n = G.own n := fun n b hl => by
    have := rho_spec (h n b hl).1
    exact ⟨by simp [Gh.view, this], by simp [Gh.view, this]⟩
  have hblk : ∀ c, blocks (G.view N) hp c → blocks G hp c := fun c ⟨n, b, h1, h2⟩ => ⟨n, b, h1, at_ren (G := G) (G' := G.view N) (ρ := rho N) (hb n b h1).1 (hb n b h1).2 (by rw [(h n b h1).2]; exact h2)⟩
  refine ⟨hf.mem, ⟨hf.bel.os, hf.bel.tape, hf.bel.output, hf.bel.size, fun k hk hS => hf.bel.block k hk fun hx => hS (hblk k hx)⟩, hf.imm_le, fun b o v hv => ?_, fun n b c h1 h2 => ?_, fun n b B h1 h2 => hf.keep n b B h1 (by rw [(hb n b h1).1]; exact h2), fun n b B h1 h2 => hf.keepOwn n b B h1 (by rw [(hb n b h1).2]; exact h2)⟩
  · rcases hf.imm_new b o v hv with h | h | h
    · exact .inl h
    · exact .inr (.inl h)
    · exact .inr (.inr (hblk _ h))
  · rcases hf.base n b c h1 h2 with h | h
    · exact .inl h
    · exact .inr (hblk _ h)

def initFr : List AV → Nat → List (Nat × AV)
  | [], _ => []
  | x :: xs, i => (i, x) :: initFr xs (i + 1)
omit [LC] in
theorem initFr_look : ∀ {xs : List AV} {G : Gh} {vs : List Value} (i : Nat), Reps xs G vs → ∀ j x, look (initFr xs i) j = some x → i ≤ j ∧ ∃ v, vs[j - i]? = some v ∧ Rep x G v
  | [], _, [], _, _, j, x, h => by cases h
  | x :: xs, G, v :: vs, i, hr, j, y, h => by
    simp only [initFr, look] at h
    cases hb : Nat.beq i j
    · rw [hb] at h
      obtain ⟨h1, u, h2, h3⟩ := initFr_look (i + 1) hr.2 j y h
      refine ⟨by omega, u, ?_, h3⟩
      rw [show j - i = (j - (i + 1)) + 1 by omega]; simpa using h2
    · rw [hb] at h; have := Nat.eq_of_beq_eq_true hb; subst this
      simp only [cond_true, Option.some.injEq] at h; subst h
      exact ⟨Nat.le_refl _, v, by simp, hr.1⟩
  | [], _, _ :: _, _, h, _, _, _ => h.elim
  | _ :: _, _, [], _, h, _, _, _ => h.elim
theorem blocks_self {G : Gh} {w : World} {hp : List (Nat × Box)} (hm : Mem G hp w) : Fin w G hp G hp w :=
  ⟨hm, ⟨rfl, rfl, rfl, Nat.le_refl _, fun _ _ _ => rfl⟩, fun _ _ _ h => h, fun _ _ _ h => .inl h, fun n bx _b h1 h2 => .inr ⟨n, bx, h1, h2⟩, fun _ _ _ _ h => h, fun _ _ _ _ h => h⟩
/-- where names of new memory begin -/
def NX : Nat := 64
/-- a function's body at these arguments -/
def runFn (cx : Cx) (body : Code) {R : Type} (enc : RS R) (labs : List (Lab R)) (asn : List Pt) (pts : List (Nat × BPt)) (xs : List AV) (hp : List (Nat × Box)) : Option R :=
  run cx enc labs 1000000 true [⟨0, [], .code body⟩] (reB pts (reA (bif cx.tb.sub then asn else []) 0 { n := cx.fn.ntmps, fr := initFr xs 0, hp := hp, nx := NX, df := [] }))
/-- the checks that are the same for all arguments -/
def fnFine (cx : Cx) (args : List Pt) (hp : List (Nat × BPt)) : Bool := ptsIn (idsB hp) args && bIn (idsB hp) hp && Nat.ble args.length cx.fn.ntmps
omit [LC] in
theorem idsB_look : ∀ {l : List (Nat × BPt)} {d : bden l} {n : Nat} {b : Box}, look (bput l d) n = some b → lookN (idsB l) n = some n
  | [], _, _, _, h => by cases h
  | (m, p) :: r, d, n, b, h => by
    have h : (bif Nat.beq m n then some (p.put d.1) else look (bput r d.2) n) = some b := h
    simp only [idsB, lookN]
    cases hb : Nat.beq m n
    · rw [hb] at h; exact idsB_look (d := d.2) h
    · have := Nat.eq_of_beq_eq_true hb; subst this; rfl
omit [LC] in
theorem noName {m : Nat} : ∀ {l : List (Nat × BPt)} {d : bden l}, look (bput l d) m = none → lookN (idsB l) m = none
  | [], _, _ => rfl
  | (n, p) :: r, d, h => by
    have h : (bif Nat.beq n m then some (p.put d.1) else look (bput r d.2) m) = none := h
    simp only [idsB, lookN]
    cases hb : Nat.beq n m
    · rw [hb] at h; exact noName (d := d.2) h
    · rw [hb] at h; cases h
omit [LC] in
theorem puts_length : ∀ {ps : List Pt} {d : Pts.den ps}, (Pts.put ps d).length = ps.length
  | [], _ => rfl
  | p :: ps, d => by show (p.put d.1 :: Pts.put ps d.2).length = _; simp [puts_length]
theorem Ent.sound_fn {e : Ent} {cx : Cx} {body : Code} {labs : List (Lab e.R)} (ok : cx.Ok body) (hkey : e.key = .fn cx.f) (hbody : cx.fn.body = some body) (hrd : cx.rd = none) (hids : cx.ids = idsB e.hp) (hpl : Plain cx.P cx.f)
    (hfine : fnFine cx e.args e.hp = true) (hlab : ∀ d', ∀ l ∈ labs, LabOk cx (bput e.hp d') e.out body l) (hF : ∀ d d', runFn cx body e.out labs e.args e.hp (Pts.put e.args d) (bput e.hp d') = e.F d d') : e.Sound cx.P := by
  intro d d' r hr
  rw [hkey]
  refine ⟨hpl, fun w G vs hm hreps => ?_⟩
  simp only [fnFine, Bool.and_eq_true] at hfine
  obtain ⟨⟨f1, f2⟩, f3⟩ := hfine
  have f3 := Nat.le_of_ble_eq_true f3
  have hin := bIn_look (d := d') f2
  have hm' := hm.only hin
  have hreps' : Reps (Pts.put e.args d) (G.view (idsB e.hp)) vs := by
    have := Reps.ren (ρ := rho (idsB e.hp)) (G := G) (G' := G.view (idsB e.hp)) (fun _ _ _ h => h) (view_box _) (view_own _) hreps
    rwa [puts_ren f1] at this
  have hlv := hreps.length
  rw [puts_length] at hlv
  have hrun := hF d d'
  rw [hr] at hrun
  have hg := run_ok (enc := e.out) ok (hp₀ := bput e.hp d') (fun n bx h => by rw [hids]; exact idsB_look h) (hlab d') _ _ _ _ _ (fun i hi => by
    rcases List.mem_cons.1 hi with rfl | hi
    · rfl
    · cases hi) hrun
  have hr0 : Rel w (G.view (idsB e.hp)) (bput e.hp d') (G.view (idsB e.hp)) { n := cx.fn.ntmps, fr := initFr (Pts.put e.args d) 0, hp := bput e.hp d', nx := NX, df := [] } { tmps := vs.toArray ++ Array.replicate (cx.fn.ntmps - vs.toArray.size) undef, defers := [] } w := by
    refine ⟨⟨[], rfl, rfl⟩, by simp; omega, fun i x hx => ?_, fun m _ hl => ?_, blocks_self hm'⟩
    · obtain ⟨_, v, h2, h3⟩ := initFr_look 0 hreps' i x hx
      refine ⟨v, ?_, h3⟩
      have hlt : i < vs.length := by have := (List.getElem?_eq_some_iff.1 h2).1; simpa using this
      rw [Array.getElem?_append_left (by simpa using hlt)]
      simpa using h2
    · have : lookN (idsB e.hp) m = none := noName hl
      simp [Gh.view, this]
  obtain ⟨G0, hr0'⟩ := hr0.reA (ps := bif cx.tb.sub then e.args else []) (i := 0)
  obtain ⟨G1, hr1⟩ := hr0'.reB (l := e.hp)
  intro cs
  let b : Frame := { (default : Frame) with fn := cx.f, kind := .normal }
  have henter : Frame.enter cx.P cx.f vs.toArray .normal = b.atR { tmps := vs.toArray ++ Array.replicate (cx.fn.ntmps - vs.toArray.size) undef, defers := [] } [.code body] := by
    simp [Frame.enter, Frame.atR, ok.func, hbody, b]
    rfl
  have := hg w _ _ _ w hr1 b cs rfl rfl (by unfold RdOk; rw [hrd]; rfl)
  obtain ⟨v, w', fr, ⟨G', h1, h2⟩, h3, h4, h5⟩ := this
  exact ⟨.returned v, w', fr, ⟨v, G', rfl, h1.only hin, h2⟩, by rw [henter]; exact h3, h4, h5⟩
omit [LC] in
/-- yield's arguments in the round's frame -/
def rdFr : List Tmp → List AV → List (Nat × AV) → List (Nat × AV)
  | p :: ps, x :: xs, fr => rdFr ps xs ((p, x) :: fr)
  | _, _, fr => fr
def allLt (n : Nat) : List Nat → Bool
  | [] => true
  | p :: ps => Nat.blt p n && allLt n ps
omit [LC] in
theorem rdFr_ok {G : Gh} {n : Nat} : ∀ {ps : List Tmp} {xs : List AV} {vs : List Value} {fr : List (Nat × AV)} {tmps : Array Value}, allLt n ps = true → tmps.size = n → ps.length = xs.length → Reps xs G vs → (∀ i x, look fr i = some x → ∃ v, tmps[i]? = some v ∧ Rep x G v) →
    ((ps.zip vs).foldl (fun (tmps : Array Value) (q : Tmp × Value) => tmps.setIfInBounds q.1 q.2) tmps).size = n ∧ ∀ i x, look (rdFr ps xs fr) i = some x → ∃ v, ((ps.zip vs).foldl (fun (tmps : Array Value) (q : Tmp × Value) => tmps.setIfInBounds q.1 q.2) tmps)[i]? = some v ∧ Rep x G v
  | [], [], [], fr, tmps, _, hn, _, _, hfr => ⟨hn, hfr⟩
  | p :: ps, x :: xs, v :: vs, fr, tmps, hlt, hn, hl, hr, hfr => by
    simp only [allLt, Bool.and_eq_true] at hlt
    have hp : p < n := by have := hlt.1; simpa using this
    simp only [List.zip_cons_cons, List.foldl_cons, rdFr]
    refine rdFr_ok hlt.2 (by simp [hn]) (by simpa using hl) hr.2 (fun i y hy => ?_)
    simp only [look] at hy
    cases he : Nat.beq p i
    · rw [he] at hy; simp only [cond_false] at hy
      have hne : p ≠ i := fun e => by subst e; simp at he
      obtain ⟨u, h1, h2⟩ := hfr i y hy
      exact ⟨u, by simp [hne, h1], h2⟩
    · rw [he] at hy; simp only [cond_true, Option.some.injEq] at hy; subst hy
      have := Nat.eq_of_beq_eq_true he; subst this
      exact ⟨v, by simp [hn, hp], hr.1⟩
  | [], _ :: _, _, _, _, _, _, h, _, _ => by simp at h
  | _ :: _, [], _, _, _, _, _, h, _, _ => by simp at h
  | [], [], _ :: _, _, _, _, _, _, h, _ => h.elim
  | _ :: _, _ :: _, [], _, _, _, _, _, h, _ => h.elim
/-- a round of the loop m, whose statement lies at p -/
def runRd (cx : Cx) (body : Code) (p : List Nat) (m : Nat) {R : Type} (enc : RS R) (labs : List (Lab R)) (pts : List (Nat × BPt)) (xs : List AV) (hp : List (Nat × Box)) : Option R :=
  match look hp m with
  | some (.loop .ready none f n fr ps tag _) => bif Nat.beq f cx.f && allLt n ps && eqLen ps xs && tagIs tag p cx.tags then
      run cx enc labs 1000000 true (itemsAt body [(0, 0 :: p), (4, []), (0, 1 :: p)]) (reB pts { n := n, fr := rdFr ps xs fr, hp := hp, nx := NX, df := [] })
    else none
  | _ => none
where
  eqLen : List Tmp → List AV → Bool
    | [], [] => true
    | _ :: ps, _ :: xs => eqLen ps xs
    | _, _ => false
  tagIs (tag : Nat) (p : List Nat) (tags : List (List Nat × Nat)) : Bool := match lookT p tags with
    | some t => Nat.beq t tag
    | none => false
omit [LC] in
theorem eqLen_eq : ∀ {ps : List Tmp} {xs : List AV}, runRd.eqLen ps xs = true → ps.length = xs.length
  | [], [], _ => rfl
  | _ :: ps, _ :: xs, h => by simp [eqLen_eq (ps := ps) (xs := xs) h]
  | [], _ :: _, h => by cases h
  | _ :: _, [], h => by cases h
def isRF : Code → Bool
  | .rangeFunc _ _ _ _ => true
  | _ => false
theorem Ent.sound_yld {e : Ent} {cx : Cx} {body : Code} {p : List Nat} {m : Nat} {labs : List (Lab e.R)} (ok : cx.Ok body) (hkey : e.key = .yld m) (hrd : cx.rd = some m) (hids : cx.ids = idsB e.hp) (hrf : isRF (sub body p) = true)
    (hfine : (ptsIn (idsB e.hp) e.args && bIn (idsB e.hp) e.hp) = true) (hlab : ∀ d', ∀ l ∈ labs, LabOk cx (bput e.hp d') e.out body l) (hF : ∀ d d', runRd cx body p m e.out labs e.hp (Pts.put e.args d) (bput e.hp d') = e.F d d') : e.Sound cx.P := by
  intro d d' r hr
  rw [hkey]
  intro w G vs B hm hreps hB
  simp only [Bool.and_eq_true] at hfine
  obtain ⟨f1, f2⟩ := hfine
  have hin := bIn_look (d := d') f2
  have hm' := hm.only hin
  have hreps' : Reps (Pts.put e.args d) (G.view (idsB e.hp)) vs := by
    have := Reps.ren (ρ := rho (idsB e.hp)) (G := G) (G' := G.view (idsB e.hp)) (fun _ _ _ h => h) (view_box _) (view_own _) hreps
    rwa [puts_ren f1] at this
  have hrun := hF d d'
  rw [hr] at hrun
  unfold runRd at hrun
  split at hrun
  · rename_i f n fr ps tag D hl
    cases hb : Nat.beq f cx.f && allLt n ps && runRd.eqLen ps (Pts.put e.args d) && runRd.tagIs tag p cx.tags <;> rw [hb] at hrun <;> simp only [cond_true, cond_false, reduceCtorEq] at hrun
    simp only [Bool.and_eq_true] at hb
    obtain ⟨⟨⟨b1, b2⟩, b3⟩, b4⟩ := hb
    have b1 := Nat.eq_of_beq_eq_true b1
    subst b1
    have b3 := eqLen_eq b3
    unfold runRd.tagIs at b4
    split at b4
    rotate_left
    · cases b4
    rename_i t ht
    have b4 := Nat.eq_of_beq_eq_true b4
    subst b4
    obtain ⟨B', tmps, DB, i1, i2, ⟨asn, bo, i3, i4⟩, i5, i6, i7⟩ := hm'.holds m _ hl
    have hBv : (G.view (idsB e.hp)).box m = some B := by
      have := rho_spec (hin m _ hl).1
      simp [Gh.view, this, hB]
    rw [hBv] at i1; injection i1 with i1; subst i1
    obtain ⟨g, ps0, x, y, hs⟩ : ∃ g ps x y, sub body p = .rangeFunc g ps x y := by
      cases hc : sub body p <;> rw [hc] at hrf <;> first | exact ⟨_, _, _, _, rfl⟩ | cases hrf
    have hcode := ok.tags p t ht g ps0 x y hs
    rw [i3] at hcode
    simp only [Option.some.injEq, Prod.mk.injEq] at hcode
    obtain ⟨rfl, rfl⟩ := hcode
    have hg := run_ok (enc := e.out) ok (hp₀ := bput e.hp d') (fun n bx h => by rw [hids]; exact idsB_look h) (hlab d') _ _ _ _ _ itemsAt_ok hrun
    have hlv := hreps.length
    obtain ⟨j1, j2⟩ := rdFr_ok (n := n) b2 i5 b3 hreps' i6
    have hr0 : Rel w (G.view (idsB e.hp)) (bput e.hp d') (G.view (idsB e.hp)) { n := n, fr := rdFr ps (Pts.put e.args d) fr, hp := bput e.hp d', nx := NX, df := [] } { tmps := (ps.zip vs).foldl (fun (tmps : Array Value) (q : Tmp × Value) => tmps.setIfInBounds q.1 q.2) tmps, defers := [] } w :=
      ⟨⟨[], rfl, rfl⟩, j1, j2, fun k _ hk => by simp [Gh.view, noName hk], blocks_self hm'⟩
    obtain ⟨G1, hr1⟩ := hr0.reB (l := e.hp)
    refine ⟨_, i4, fun c cs => ⟨by simp; omega, ?_⟩⟩
    let b : Frame := { (default : Frame) with fn := cx.f, kind := .normal, roundOf := some B }
    have := hg w _ _ _ w hr1 b (c :: cs) rfl rfl (by unfold RdOk; rw [hrd]; exact ⟨B, _, hBv, hl, rfl⟩)
    obtain ⟨v, w', ⟨G', h1, h2⟩, h3⟩ := this c cs rfl
    refine ⟨v, w', ⟨v, G', rfl, h1.only hin, h2⟩, ?_⟩
    have e1 : Frame.round B cx.f ((ps.toArray.zip vs.toArray).foldl (fun tmps (t, a) => tmps.setIfInBounds t a) tmps) asn bo .normal = b.atR { tmps := (ps.zip vs).foldl (fun (tmps : Array Value) (q : Tmp × Value) => tmps.setIfInBounds q.1 q.2) tmps, defers := [] } (items (itemsAt body [(0, 0 :: p), (4, []), (0, 1 :: p)])) := by
      simp [Frame.round, Frame.atR, b, items, itemsAt, itemAt, sub, hs, child, List.zip_toArray]
    simp only at e1 ⊢
    rw [e1]
    exact h3
  · cases hrun
/-- a label's function out of the body behind it -/
theorem LabOk.of_run {cx : Cx} {body : Code} {hp₀ : List (Nat × Box)} {R : Type} {enc : RS R} {labs : List (Lab R)} (ok : cx.Ok body) (hid : ∀ n bx, look hp₀ n = some bx → lookN cx.ids n = some n) (hlab : ∀ l ∈ labs, LabOk cx hp₀ enc body l) {l : Lab R}
    (h : ∀ d, run cx enc labs 1000000 false (itemsAt body l.key) (l.ls.st d) = l.F d) : LabOk cx hp₀ enc body l := fun d r hr => by
  have := h d
  rw [hr] at this
  exact run_ok ok hid hlab _ _ _ _ _ itemsAt_ok this
end Go.Sym
/- Words for printed texts. -/
namespace Go.Sym
open Go.RowKit
def bodyOf (f : Func) : Code := match f.body with
  | some c => c
  | none => .skip
/-- wrapping to 64 bits -/
def w64 (n : Int) : Int := IntKind.i64.wrap n
section
variable [LC] {cx : Cx} {hp₀ : List (Nat × Box)} {R : Type} {enc : RS R} {body : Code} {P : Program}
theorem labs0 : ∀ l ∈ ([] : List (Lab R)), LabOk cx hp₀ enc body l := fun _ h => by cases h
theorem labs1 {l : Lab R} {ls : List (Lab R)} (h : LabOk cx hp₀ enc body l) (k : ∀ x ∈ ls, LabOk cx hp₀ enc body x) : ∀ x ∈ l :: ls, LabOk cx hp₀ enc body x := fun x hx => by
  rcases List.mem_cons.1 hx with rfl | hx
  · exact h
  · exact k x hx
theorem ents0 : ∀ e ∈ ([] : List Ent), e.Sound P := fun _ h => by cases h
theorem ents1 {e : Ent} {es : List Ent} (h : e.Sound P) (k : ∀ x ∈ es, x.Sound P) : ∀ x ∈ e :: es, x.Sound P := fun x hx => by
  rcases List.mem_cons.1 hx with rfl | hx
  · exact h
  · exact k x hx
theorem tags0 : ∀ p t, lookT p [] = some t → ∀ g ps x y, sub body p = .rangeFunc g ps x y → LC.lc t = some (x, y) := fun _ _ h => by cases h
theorem tags1 {p : List Nat} {t : Nat} {tags : List (List Nat × Nat)} (h : LC.lc t = some (child 0 (sub body p), child 1 (sub body p))) (k : ∀ p t, lookT p tags = some t → ∀ g ps x y, sub body p = .rangeFunc g ps x y → LC.lc t = some (x, y)) :
    ∀ q u, lookT q ((p, t) :: tags) = some u → ∀ g ps x y, sub body q = .rangeFunc g ps x y → LC.lc u = some (x, y) := fun q u hq g ps x y hs => by
  simp only [lookT] at hq
  cases hb : eqNs p q
  · rw [hb] at hq; exact k q u hq g ps x y hs
  · rw [hb] at hq
    simp only [cond_true, Option.some.injEq] at hq
    subst hq
    have := eqNs_eq hb; subst this
    rw [h, hs]; rfl
end
end Go.Sym
/- Functions without a body that the model answers itself: the entries of internal/bytealg. -/
namespace Go.Sym
open Go.RowKit
variable [LC]

/-- the place of the first such byte -/
def F_bytealg_IndexByte (b : List UInt8) (c : UInt8) : Option Int := some (Lib.indexByte b c)
def F_bytealg_IndexByte_ent (f : FuncId) (r : List UInt8 → UInt8 → Option Int) : Ent := { key := .ext f, args := [.h (.list .byte), .h .byte], hp := [], R := Int, F := fun d _ => r d.1 d.2.1, out := .one (α := Int) (.h (.int .i64)) [] (fun r => (r, ())) (fun y => y.1) (fun _ => rfl) }
def F_bytealg_IndexByteString_ent (f : FuncId) (r : List UInt8 → UInt8 → Option Int) : Ent := { key := .ext f, args := [.h .str, .h .byte], hp := [], R := Int, F := fun d _ => r d.1 d.2.1, out := .one (α := Int) (.h (.int .i64)) [] (fun r => (r, ())) (fun y => y.1) (fun _ => rfl) }
omit [LC] in
theorem byte_back (c : UInt8) : ((c.toNat : Int)).toNat.toUInt8 = c := by simp
theorem indexByteString_ext {P : Program} {f : FuncId} {fn : Func} (hf : P.funcs[f]? = some fn) (hname : (fn.name == "runtime.NumGoroutine") = false) (hb : fn.body.isNone = true) (hn : Extern.findNext fn = none) (he : Extern.find fn = some Extern.BytealgIndexByte.indexByte) (b : List UInt8) (c : UInt8) :
    ExtTo P f [.str b, .byte c] (.int .i64 (Lib.indexByte b c)) := fun w G vs _ hr => by
  match vs, hr with
  | [v1, v2], ⟨h1, h2, _⟩ =>
    have h1 : v1 = .string ⟨b.toArray⟩ := h1
    have h2 : v2 = .int .u8 c.toNat := h2
    subst h1 h2
    refine ⟨.int .i64 (Lib.indexByte b c), ?_, rfl⟩
    rw [run_callFunc_extern hf hname hb hn he, show ([Value.string ⟨b.toArray⟩, .int .u8 c.toNat] : List Value).toArray = #[.string ⟨b.toArray⟩, .int .u8 c.toNat] from rfl, Lib.run_indexByteString, byte_back]
    rfl
theorem indexByte_ext {P : Program} {f : FuncId} {fn : Func} (hf : P.funcs[f]? = some fn) (hname : (fn.name == "runtime.NumGoroutine") = false) (hb : fn.body.isNone = true) (hn : Extern.findNext fn = none) (he : Extern.find fn = some Extern.BytealgIndexByte.indexByte) (b : List UInt8) (c : UInt8) :
    ExtTo P f [.sl .byte b, .byte c] (.int .i64 (Lib.indexByte b c)) := fun w G vs hm hr => by
  match vs, hr with
  | [v1, v2], ⟨h1, h2, _⟩ =>
    have h2 : v2 = .int .u8 c.toNat := h2
    subst h2
    obtain ⟨a, cp, rfl, hc, hl⟩ : SlAt 1 (Ty.byte.At G.imm) b v1 := h1
    refine ⟨.int .i64 (Lib.indexByte b c), ?_, rfl⟩
    rw [run_callFunc_extern hf hname hb hn he]
    have key : ∀ k : Int, (Extern.BytealgIndexByte.indexByte #[.slice a b.length cp, .int .u8 c.toNat]).run P w = .ok (.int .i64 k) w → ((Extern.BytealgIndexByte.indexByte ([Value.slice a b.length cp, .int .u8 c.toNat] : List Value).toArray).run P w).andThen (fun v w' => Result.ok (Next.value v) w') = .ok (.value (.int .i64 k)) w := by
      intro k hk
      have e : ([Value.slice a b.length cp, .int .u8 c.toNat] : List Value).toArray = #[.slice a b.length cp, .int .u8 c.toNat] := rfl
      rw [e, hk]; rfl
    refine key _ ?_
    have bb : Lib.bytesOf (b.map fun x => (x.toNat : Int)) = b := by
      unfold Lib.bytesOf
      rw [List.map_map]
      have : ((fun n : Int => UInt8.ofNat n.toNat) ∘ fun x : UInt8 => (x.toNat : Int)) = id := by funext x; simp
      rw [this, List.map_id]
    rcases hl with rfl | ⟨g, o, rfl, hcells⟩
    · have hs := Lib.run_indexByteString (P := P) .empty (c.toNat : Int) w
      cases a with
      | none => exact hs
      | some ad => exact hs
    · have := Lib.run_indexByteSlice (P := P) (w := w) g o b.length cp (b.map fun x => (x.toNat : Int)) (by simp) (fun i hi => by
        have hk : G.imm g (o + i * 1) = some (.int .u8 b[i].toNat) := hcells i _ (List.getElem?_eq_getElem hi)
        have := hm.agree _ _ _ hk
        rw [Nat.mul_one] at this
        rw [this]
        simp [List.getD_eq_getElem?_getD, hi]) (c.toNat : Int)
      rw [bb, byte_back] at this
      exact this
theorem F_bytealg_IndexByteString_ok {P : Program} {f : FuncId} {fn : Func} (hf : P.funcs[f]? = some fn) (hname : (fn.name == "runtime.NumGoroutine") = false) (hb : fn.body.isNone = true) (hn : Extern.findNext fn = none) (he : Extern.find fn = some Extern.BytealgIndexByte.indexByte) :
    (F_bytealg_IndexByteString_ent f F_bytealg_IndexByte).Sound P := fun d d' r h => by
  have h : some (Lib.indexByte (show List UInt8 from d.1) (show UInt8 from d.2.1)) = some r := h
  have h := Option.some.inj h
  subst h
  exact indexByteString_ext hf hname hb hn he _ _
theorem F_bytealg_IndexByte_ok {P : Program} {f : FuncId} {fn : Func} (hf : P.funcs[f]? = some fn) (hname : (fn.name == "runtime.NumGoroutine") = false) (hb : fn.body.isNone = true) (hn : Extern.findNext fn = none) (he : Extern.find fn = some Extern.BytealgIndexByte.indexByte) :
    (F_bytealg_IndexByte_ent f F_bytealg_IndexByte).Sound P := fun d d' r h => by
  have h : some (Lib.indexByte (show List UInt8 from d.1) (show UInt8 from d.2.1)) = some r := h
  have h := Option.some.inj h
  subst h
  exact indexByte_ext hf hname hb hn he _ _
end Go.Sym
/- Plain functions that the Go functions compute: printed by a program out of the translation. -/
namespace Go.Sym
set_option linter.unusedVariables false
/- posthouse/basic.Fault -/
def F_basic_Fault (p0 : Int) (p1 : Int) : Option ((Int × Int)) :=
  some (p0, p1)
/- bytes.IndexByte -/
def F_bytes_IndexByte (p0 : List UInt8) (p1 : UInt8) : Option Int :=
  (F_bytealg_IndexByte p0 p1).bind fun x1 =>
  some x1
/- bytes.Equal -/
def F_bytes_Equal (p0 : List UInt8) (p1 : List UInt8) : Option Bool :=
  some (p0 == p1)
/- bytes.HasSuffix -/
def F_bytes_HasSuffix (p0 : List UInt8) (p1 : List UInt8) : Option Bool :=
  bif decide ((List.length p1 : Int) ≤ (List.length p0 : Int)) then
    bif decide (0 ≤ w64 ((List.length p0 : Int) - (List.length p1 : Int)) ∧ w64 ((List.length p0 : Int) - (List.length p1 : Int)) ≤ (List.length p0 : Int)) then
    (F_bytes_Equal (List.drop (w64 ((List.length p0 : Int) - (List.length p1 : Int))).toNat p0) p1).bind fun x1 =>
    some x1
    else none
  else
    some false
/- bytes.TrimSuffix -/
def F_bytes_TrimSuffix (p0 : List UInt8) (p1 : List UInt8) : Option ((List UInt8)) :=
  (F_bytes_HasSuffix p0 p1).bind fun x1 =>
  bif x1 then
    bif decide (0 ≤ w64 ((List.length p0 : Int) - (List.length p1 : Int)) ∧ w64 ((List.length p0 : Int) - (List.length p1 : Int)) ≤ (List.length p0 : Int)) then
    some (List.take (w64 ((List.length p0 : Int) - (List.length p1 : Int))).toNat p0)
    else none
  else
    some p0
/- posthouse/header.line -/
def F_header_line (p0 : List UInt8) : Option ((List UInt8) × Int) :=
  (F_bytes_IndexByte p0 (10 : UInt8)).bind fun x1 =>
  bif decide (x1 < (0 : Int)) then
    some (p0, (List.length p0 : Int))
  else
    bif decide (0 ≤ x1 ∧ x1 ≤ (List.length p0 : Int)) then
    bif decide (0 < List.length ([(13 : UInt8)] : List UInt8)) then
    (F_bytes_TrimSuffix (List.take x1.toNat p0) ([(13 : UInt8)] : List UInt8)).bind fun x2 =>
    some (x2, w64 (x1 + (1 : Int)))
    else none
    else none
/- posthouse/basic.Blank -/
def F_basic_Blank (p0 : UInt8) : Option Bool :=
  bif p0 == (32 : UInt8) then
    some true
  else
    some (p0 == (9 : UInt8))
/- strings.NewReplacer -/
def F_strings_NewReplacer (p0 : List (List UInt8)) : Option (Int × Int × Int × (List (List UInt8))) :=
  bif (Int.tmod (List.length p0 : Int) (2 : Int)) == (1 : Int) then
    none
  else
    bif decide (List.length p0 ≤ rowMax) then
    some ((0 : Int), ((0 : Int), ((0 : Int), p0)))
    else none
/- posthouse/basic.None -/
def F_basic_None : Option ((Int × Int)) :=
  some ((0 : Int), (0 : Int))
/- internal/stringslite.IndexByte -/
def F_internal_stringslite_IndexByte (p0 : List UInt8) (p1 : UInt8) : Option Int :=
  (F_bytealg_IndexByte p0 p1).bind fun x1 =>
  some x1
/- internal/stringslite.Index -/
def F_internal_stringslite_Index_p0 (s0 : List UInt8) (s1 : List UInt8) (s5 : Int) (s16 : Bool) : Option Int :=
  bif s16 then
    some (0 : Int)
  else
    bif s5 == (1 : Int) then
      (idx s1 (0 : Int)).bind fun c1 =>
      (F_internal_stringslite_IndexByte s0 c1).bind fun x2 =>
      some x2
    else
      bif decide ((List.length s0 : Int) ≤ s5) then
        some (-1 : Int)
      else
        none
def F_internal_stringslite_Index (p0 : List UInt8) (p1 : List UInt8) : Option Int :=
  bif (List.length p1 : Int) == (0 : Int) then
    F_internal_stringslite_Index_p0 p0 p1 (List.length p1 : Int) true
  else
    F_internal_stringslite_Index_p0 p0 p1 (List.length p1 : Int) (p1 == p0)
/- internal/stringslite.Cut -/
def F_internal_stringslite_Cut (p0 : List UInt8) (p1 : List UInt8) : Option ((List UInt8) × (List UInt8) × Bool) :=
  (F_internal_stringslite_Index p0 p1).bind fun x1 =>
  bif decide ((0 : Int) ≤ x1) then
    bif decide (0 ≤ x1 ∧ x1 ≤ (List.length p0 : Int)) then
    bif decide (0 ≤ w64 (x1 + (List.length p1 : Int)) ∧ w64 (x1 + (List.length p1 : Int)) ≤ (List.length p0 : Int)) then
    some (List.take x1.toNat p0, (List.drop (w64 (x1 + (List.length p1 : Int))).toNat p0, true))
    else none
    else none
  else
    some (p0, (([] : List UInt8), false))
/- strings.Cut -/
def F_strings_Cut (p0 : List UInt8) (p1 : List UInt8) : Option ((List UInt8) × (List UInt8) × Bool) :=
  (F_internal_stringslite_Cut p0 p1).bind fun x1 =>
  some x1
/- strings.trimRightByte -/
def F_strings_trimRightByte_b0 (fu : Nat) (r0 : (List UInt8) → UInt8 → Option ((List UInt8))) (s0 : List UInt8) (s1 : UInt8) : Option ((List UInt8)) :=
  bif decide ((0 : Int) < (List.length s0 : Int)) then
    (idx s0 (w64 ((List.length s0 : Int) - (1 : Int)))).bind fun c1 =>
    bif c1 == s1 then
      bif decide (0 ≤ w64 ((List.length s0 : Int) - (1 : Int)) ∧ w64 ((List.length s0 : Int) - (1 : Int)) ≤ (List.length s0 : Int)) then
      r0 (List.take (w64 ((List.length s0 : Int) - (1 : Int))).toNat s0) s1
      else none
    else
      some s0
  else
    some s0
def F_strings_trimRightByte_p0 (fu : Nat) : Nat → (List UInt8) → UInt8 → Option ((List UInt8))
  | 0, _, _ => none
  | n + 1, s0, s1 => F_strings_trimRightByte_b0 fu (F_strings_trimRightByte_p0 fu n) s0 s1
def F_strings_trimRightByte (fu : Nat) (p0 : List UInt8) (p1 : UInt8) : Option ((List UInt8)) :=
  F_strings_trimRightByte_p0 fu fu p0 p1
/- strings.makeASCIISet -/
def F_strings_makeASCIISet_b0 (fu : Nat) (r0 : (List UInt8) → Int → (List Bool) → Option ((List Bool) × Bool)) (s0 : List UInt8) (s4 : Int) (m16 : List Bool) : Option ((List Bool) × Bool) :=
  bif decide (s4 < (List.length s0 : Int)) then
    (idx s0 s4).bind fun c1 =>
    bif decide ((128 : UInt8) ≤ c1) then
      bif decide (List.length m16 = 256) then
      bif decide (List.length m16 = List.length m16) && decide (List.length m16 = 256) then
      bif decide (List.length m16 = 256) && (true && true) then
      some (m16, false)
      else none
      else none
      else none
    else
      (m16[c1.toNat]?).bind fun y2 =>
      r0 s0 (w64 (s4 + (1 : Int))) (List.set m16 c1.toNat true)
  else
    bif decide (List.length m16 = 256) then
    bif decide (List.length m16 = List.length m16) && decide (List.length m16 = 256) then
    bif decide (List.length m16 = 256) && (true && true) then
    some (m16, true)
    else none
    else none
    else none
def F_strings_makeASCIISet_p0 (fu : Nat) : Nat → (List UInt8) → Int → (List Bool) → Option ((List Bool) × Bool)
  | 0, _, _, _ => none
  | n + 1, s0, s4, m16 => F_strings_makeASCIISet_b0 fu (F_strings_makeASCIISet_p0 fu n) s0 s4 m16
def F_strings_makeASCIISet (fu : Nat) (p0 : List UInt8) : Option ((List Bool) × Bool) :=
  F_strings_makeASCIISet_p0 fu fu p0 (0 : Int) (List.replicate 256 false)
/- (*strings.asciiSet).contains -/
def F_strings_asciiSet_contains (p0 : UInt8) (p1 : List Bool) : Option (Bool × (List Bool)) :=
  (p1[p0.toNat]?).bind fun y1 =>
  some (y1, p1)
/- strings.trimRightASCII -/
def F_strings_trimRightASCII_b0 (fu : Nat) (r0 : (List UInt8) → (List Bool) → Option ((List UInt8) × (List Bool))) (s0 : List UInt8) (m0 : List Bool) : Option ((List UInt8) × (List Bool)) :=
  bif decide ((0 : Int) < (List.length s0 : Int)) then
    (idx s0 (w64 ((List.length s0 : Int) - (1 : Int)))).bind fun c1 =>
    (F_strings_asciiSet_contains c1 m0).bind fun x2 =>
    bif !x2.1 then
      some (s0, x2.2)
    else
      bif decide (0 ≤ w64 ((List.length s0 : Int) - (1 : Int)) ∧ w64 ((List.length s0 : Int) - (1 : Int)) ≤ (List.length s0 : Int)) then
      r0 (List.take (w64 ((List.length s0 : Int) - (1 : Int))).toNat s0) x2.2
      else none
  else
    some (s0, m0)
def F_strings_trimRightASCII_p0 (fu : Nat) : Nat → (List UInt8) → (List Bool) → Option ((List UInt8) × (List Bool))
  | 0, _, _ => none
  | n + 1, s0, m0 => F_strings_trimRightASCII_b0 fu (F_strings_trimRightASCII_p0 fu n) s0 m0
def F_strings_trimRightASCII (fu : Nat) (p0 : List UInt8) (p1 : List Bool) : Option ((List UInt8) × (List Bool)) :=
  F_strings_trimRightASCII_p0 fu fu p0 p1
/- unicode/utf8.RuneStart -/
def F_unicode_utf8_RuneStart (p0 : UInt8) : Option Bool :=
  some ((p0 &&& (192 : UInt8)) != (128 : UInt8))
/- unicode/utf8.decodeRuneInStringSlow -/
def F_unicode_utf8_decodeRuneInStringSlow (p0 : List UInt8) : Option (Int × Int) :=
  bif decide ((List.length p0 : Int) < (1 : Int)) then
    some ((65533 : Int), (0 : Int))
  else
    (idx p0 (0 : Int)).bind fun c1 =>
    none
/- unicode/utf8.DecodeRuneInString -/
def F_unicode_utf8_DecodeRuneInString (p0 : List UInt8) : Option (Int × Int) :=
  bif !(p0 == ([] : List UInt8)) then
    (idx p0 (0 : Int)).bind fun c1 =>
    bif decide (c1 < (128 : UInt8)) then
      (idx p0 (0 : Int)).bind fun c2 =>
      some ((c2.toNat : Int), (1 : Int))
    else
      (F_unicode_utf8_decodeRuneInStringSlow p0).bind fun x3 =>
      some x3
  else
    (F_unicode_utf8_decodeRuneInStringSlow p0).bind fun x4 =>
    some x4
/- unicode/utf8.DecodeLastRuneInString -/
def F_unicode_utf8_DecodeLastRuneInString_p2 (fu : Nat) (s0 : List UInt8) (s4 : Int) (s5 : Int) : Option (Int × Int) :=
  bif decide (0 ≤ s5 ∧ s5 ≤ s4 ∧ s4 ≤ (List.length s0 : Int)) then
  (F_unicode_utf8_DecodeRuneInString (List.take (s4.toNat - s5.toNat) (List.drop s5.toNat s0))).bind fun x1 =>
  bif (w64 (s5 + x1.2)) != s4 then
    some ((65533 : Int), (1 : Int))
  else
    some x1
  else none
def F_unicode_utf8_DecodeLastRuneInString_p1 (fu : Nat) (s0 : List UInt8) (s4 : Int) (s5 : Int) : Option (Int × Int) :=
  bif decide (s5 < (0 : Int)) then
    F_unicode_utf8_DecodeLastRuneInString_p2 fu s0 s4 (0 : Int)
  else
    F_unicode_utf8_DecodeLastRuneInString_p2 fu s0 s4 s5
def F_unicode_utf8_DecodeLastRuneInString_b0 (fu : Nat) (r0 : (List UInt8) → Int → Int → Int → Option (Int × Int)) (s0 : List UInt8) (s4 : Int) (s5 : Int) (s6 : Int) : Option (Int × Int) :=
  bif decide (s6 ≤ s5) then
    (idx s0 s5).bind fun c1 =>
    (F_unicode_utf8_RuneStart c1).bind fun x2 =>
    bif x2 then
      F_unicode_utf8_DecodeLastRuneInString_p1 fu s0 s4 s5
    else
      r0 s0 s4 (w64 (s5 - (1 : Int))) s6
  else
    F_unicode_utf8_DecodeLastRuneInString_p1 fu s0 s4 s5
def F_unicode_utf8_DecodeLastRuneInString_p0 (fu : Nat) : Nat → (List UInt8) → Int → Int → Int → Option (Int × Int)
  | 0, _, _, _, _ => none
  | n + 1, s0, s4, s5, s6 => F_unicode_utf8_DecodeLastRuneInString_b0 fu (F_unicode_utf8_DecodeLastRuneInString_p0 fu n) s0 s4 s5 s6
def F_unicode_utf8_DecodeLastRuneInString (fu : Nat) (p0 : List UInt8) : Option (Int × Int) :=
  bif (List.length p0 : Int) == (0 : Int) then
    some ((65533 : Int), (0 : Int))
  else
    (idx p0 (w64 ((List.length p0 : Int) - (1 : Int)))).bind fun c1 =>
    bif decide ((c1.toNat : Int) < (128 : Int)) then
      some ((c1.toNat : Int), (1 : Int))
    else
      F_unicode_utf8_DecodeLastRuneInString_p0 fu fu p0 (List.length p0 : Int) (w64 ((w64 ((List.length p0 : Int) - (1 : Int))) - (1 : Int))) (if (0 : Int) > w64 ((List.length p0 : Int) - (4 : Int)) then (0 : Int) else w64 ((List.length p0 : Int) - (4 : Int)))
/- strings.IndexByte -/
def F_strings_IndexByte (p0 : List UInt8) (p1 : UInt8) : Option Int :=
  (F_internal_stringslite_IndexByte p0 p1).bind fun x1 =>
  some x1
/- unicode/utf8.ValidRune -/
def F_unicode_utf8_ValidRune (p0 : Int) : Option Bool :=
  bif decide ((0 : Int) ≤ p0) then
    bif decide (p0 < (55296 : Int)) then
      some true
    else
      bif decide ((57343 : Int) < p0) then
        bif decide (p0 ≤ (1114111 : Int)) then
          some true
        else
          some false
      else
        some false
  else
    bif decide ((57343 : Int) < p0) then
      bif decide (p0 ≤ (1114111 : Int)) then
        some true
      else
        some false
    else
      some false
/- strings.IndexRune -/
def F_strings_IndexRune_b1 (fu : Nat) (r1 : (List UInt8) → Nat → Option Int) (m16_0 : List UInt8) (m16_1 : Nat) : Option Int :=
  bif Nat.blt m16_1 (List.length m16_0) then
    bif (((rdec m16_0 m16_1).1 : Nat) : Int) == (65533 : Int) then
      some ((m16_1 : Nat) : Int)
    else
      r1 m16_0 (m16_1 + (rdec m16_0 m16_1).2)
  else
    some (-1 : Int)
def F_strings_IndexRune_p1 (fu : Nat) : Nat → (List UInt8) → Nat → Option Int
  | 0, _, _ => none
  | n + 1, m16_0, m16_1 => F_strings_IndexRune_b1 fu (F_strings_IndexRune_p1 fu n) m16_0 m16_1
def F_strings_IndexRune_b4 (fu : Nat) (r2 : (List UInt8) → (List UInt8) → Int → Int → Option Int) (r4 : (List UInt8) → (List UInt8) → Int → Int → Int → Option Int) (s0 : List UInt8) (s7 : List UInt8) (s8 : Int) (s9 : Int) (s12 : Int) : Option Int :=
  bif decide (s12 < (List.length s7 : Int)) then
    (idx s0 (w64 (s9 - s12))).bind fun c1 =>
    (idx s7 (w64 (s8 - s12))).bind fun c2 =>
    bif c1 != c2 then
      none
    else
      r4 s0 s7 s8 s9 (w64 (s12 + (1 : Int)))
  else
    some (w64 (s9 - s8))
def F_strings_IndexRune_p4 (fu : Nat) (r2 : (List UInt8) → (List UInt8) → Int → Int → Option Int) : Nat → (List UInt8) → (List UInt8) → Int → Int → Int → Option Int
  | 0, _, _, _, _, _ => none
  | n + 1, s0, s7, s8, s9, s12 => F_strings_IndexRune_b4 fu r2 (F_strings_IndexRune_p4 fu r2 n) s0 s7 s8 s9 s12
def F_strings_IndexRune_p3 (fu : Nat) (r2 : (List UInt8) → (List UInt8) → Int → Int → Option Int) (s0 : List UInt8) (s7 : List UInt8) (s8 : Int) (s9 : Int) : Option Int :=
  F_strings_IndexRune_p4 fu r2 fu s0 s7 s8 s9 (1 : Int)
def F_strings_IndexRune_b2 (fu : Nat) (r2 : (List UInt8) → (List UInt8) → Int → Int → Option Int) (s0 : List UInt8) (s7 : List UInt8) (s8 : Int) (s9 : Int) : Option Int :=
  bif decide (s9 < (List.length s0 : Int)) then
    (idx s0 s9).bind fun c1 =>
    (idx s7 s8).bind fun c2 =>
    bif c1 != c2 then
      bif decide (0 ≤ w64 (s9 + (1 : Int)) ∧ w64 (s9 + (1 : Int)) ≤ (List.length s0 : Int)) then
      (idx s7 s8).bind fun c3 =>
      (F_strings_IndexByte (List.drop (w64 (s9 + (1 : Int))).toNat s0) c3).bind fun x4 =>
      bif decide (x4 < (0 : Int)) then
        some (-1 : Int)
      else
        F_strings_IndexRune_p3 fu r2 s0 s7 s8 (w64 (s9 + (w64 (x4 + (1 : Int)))))
      else none
    else
      F_strings_IndexRune_p3 fu r2 s0 s7 s8 s9
  else
    some (-1 : Int)
def F_strings_IndexRune_p2 (fu : Nat) : Nat → (List UInt8) → (List UInt8) → Int → Int → Option Int
  | 0, _, _, _, _ => none
  | n + 1, s0, s7, s8, s9 => F_strings_IndexRune_b2 fu (F_strings_IndexRune_p2 fu n) s0 s7 s8 s9
def F_strings_IndexRune_p0 (fu : Nat) (s0 : List UInt8) (s1 : Int) (s160 : Bool) : Option Int :=
  bif s160 then
    (F_strings_IndexByte s0 (toU8 s1)).bind fun x1 =>
    some x1
  else
    bif s1 == (65533 : Int) then
      F_strings_IndexRune_p1 fu fu s0 0
    else
      (F_unicode_utf8_ValidRune s1).bind fun x2 =>
      bif !x2 then
        some (-1 : Int)
      else
        F_strings_IndexRune_p2 fu fu s0 (renc s1) (w64 ((List.length (renc s1) : Int) - (1 : Int))) (w64 ((List.length (renc s1) : Int) - (1 : Int)))
def F_strings_IndexRune (fu : Nat) (p0 : List UInt8) (p1 : Int) : Option Int :=
  bif decide ((0 : Int) ≤ p1) then
    F_strings_IndexRune_p0 fu p0 p1 (decide (p1 < (128 : Int)))
  else
    F_strings_IndexRune_p0 fu p0 p1 false
/- strings.ContainsRune -/
def F_strings_ContainsRune (fu : Nat) (p0 : List UInt8) (p1 : Int) : Option Bool :=
  (F_strings_IndexRune fu p0 p1).bind fun x1 =>
  some (decide ((0 : Int) ≤ x1))
/- strings.trimRightUnicode -/
def F_strings_trimRightUnicode_b0 (fu : Nat) (r0 : (List UInt8) → (List UInt8) → Option ((List UInt8))) (s0 : List UInt8) (s1 : List UInt8) : Option ((List UInt8)) :=
  bif decide ((0 : Int) < (List.length s0 : Int)) then
    (idx s0 (w64 ((List.length s0 : Int) - (1 : Int)))).bind fun c1 =>
    bif decide ((128 : Int) ≤ (c1.toNat : Int)) then
      (F_unicode_utf8_DecodeLastRuneInString fu s0).bind fun x2 =>
      (F_strings_ContainsRune fu s1 x2.1).bind fun x3 =>
      bif !x3 then
        some s0
      else
        bif decide (0 ≤ w64 ((List.length s0 : Int) - x2.2) ∧ w64 ((List.length s0 : Int) - x2.2) ≤ (List.length s0 : Int)) then
        r0 (List.take (w64 ((List.length s0 : Int) - x2.2)).toNat s0) s1
        else none
    else
      (F_strings_ContainsRune fu s1 (c1.toNat : Int)).bind fun x4 =>
      bif !x4 then
        some s0
      else
        bif decide (0 ≤ w64 ((List.length s0 : Int) - (1 : Int)) ∧ w64 ((List.length s0 : Int) - (1 : Int)) ≤ (List.length s0 : Int)) then
        r0 (List.take (w64 ((List.length s0 : Int) - (1 : Int))).toNat s0) s1
        else none
  else
    some s0
def F_strings_trimRightUnicode_p0 (fu : Nat) : Nat → (List UInt8) → (List UInt8) → Option ((List UInt8))
  | 0, _, _ => none
  | n + 1, s0, s1 => F_strings_trimRightUnicode_b0 fu (F_strings_trimRightUnicode_p0 fu n) s0 s1
def F_strings_trimRightUnicode (fu : Nat) (p0 : List UInt8) (p1 : List UInt8) : Option ((List UInt8)) :=
  F_strings_trimRightUnicode_p0 fu fu p0 p1
/- strings.TrimRight -/
def F_strings_TrimRight_p3 (fu : Nat) (s0 : List UInt8) (s1 : List UInt8) : Option ((List UInt8)) :=
  (F_strings_makeASCIISet fu s1).bind fun x1 =>
  bif decide (List.length x1.1 = List.length (List.replicate 256 false)) && decide (List.length x1.1 = 256) then
  bif x1.2 then
    (F_strings_trimRightASCII fu s0 x1.1).bind fun x2 =>
    some x2.1
  else
    (F_strings_trimRightUnicode fu s0 s1).bind fun x3 =>
    some x3
  else none
def F_strings_TrimRight_p2 (fu : Nat) (s0 : List UInt8) (s1 : List UInt8) (s21 : Bool) : Option ((List UInt8)) :=
  bif s21 then
    (idx s1 (0 : Int)).bind fun c1 =>
    (F_strings_trimRightByte fu s0 c1).bind fun x2 =>
    some x2
  else
    F_strings_TrimRight_p3 fu s0 s1
def F_strings_TrimRight_p1 (fu : Nat) (s0 : List UInt8) (s1 : List UInt8) : Option ((List UInt8)) :=
  bif (List.length s1 : Int) == (1 : Int) then
    (idx s1 (0 : Int)).bind fun c1 =>
    F_strings_TrimRight_p2 fu s0 s1 (decide (c1 < (128 : UInt8)))
  else
    F_strings_TrimRight_p2 fu s0 s1 false
def F_strings_TrimRight_p0 (fu : Nat) (s0 : List UInt8) (s1 : List UInt8) (s12 : Bool) : Option ((List UInt8)) :=
  bif s12 then
    some s0
  else
    F_strings_TrimRight_p1 fu s0 s1
def F_strings_TrimRight (fu : Nat) (p0 : List UInt8) (p1 : List UInt8) : Option ((List UInt8)) :=
  bif p0 == ([] : List UInt8) then
    F_strings_TrimRight_p0 fu p0 p1 true
  else
    F_strings_TrimRight_p0 fu p0 p1 (p1 == ([] : List UInt8))
/- posthouse/fold.name$1 -/
def F_fold_name_1 (p0 : UInt8) : Option Bool :=
  bif decide ((33 : UInt8) ≤ p0) then
    bif decide (p0 ≤ (126 : UInt8)) then
      some (p0 != (58 : UInt8))
    else
      some false
  else
    some false
/- posthouse/basic.All -/
def F_basic_All_b0 (fu : Nat) (r0 : (List UInt8) → Int → Int → Option Bool) (s0 : List UInt8) (s7 : Int) (s8 : Int) : Option Bool :=
  bif decide (s8 < s7) then
    (idx s0 s8).bind fun c1 =>
    (F_fold_name_1 c1).bind fun x2 =>
    bif !x2 then
      some false
    else
      r0 s0 s7 (w64 (s8 + (1 : Int)))
  else
    some true
def F_basic_All_p0 (fu : Nat) : Nat → (List UInt8) → Int → Int → Option Bool
  | 0, _, _, _ => none
  | n + 1, s0, s7, s8 => F_basic_All_b0 fu (F_basic_All_p0 fu n) s0 s7 s8
def F_basic_All (fu : Nat) (p0 : List UInt8) : Option Bool :=
  F_basic_All_p0 fu fu p0 (List.length p0 : Int) (0 : Int)
/- posthouse/fold.name -/
def F_fold_name (fu : Nat) (p0 : List UInt8) : Option Bool :=
  bif !(p0 == ([] : List UInt8)) then
    bif decide ((List.length p0 : Int) ≤ (60 : Int)) then
      (F_basic_All fu p0).bind fun x1 =>
      some x1
    else
      some false
  else
    some false
/- strings.shouldUseASCIISet -/
def F_strings_shouldUseASCIISet (p0 : Int) : Option Bool :=
  some (decide ((8 : Int) < p0))
/- strings.IndexAny -/
def F_strings_IndexAny_p0 (fu : Nat) (s0 : List UInt8) (s5 : Int) : Option Int :=
  (F_strings_IndexRune fu s0 s5).bind fun x1 =>
  some x1
def F_strings_IndexAny_b1 (fu : Nat) (r1 : (List UInt8) → Int → (List Bool) → Option Int) (s0 : List UInt8) (s8 : Int) (m16 : List Bool) : Option Int :=
  bif decide (s8 < (List.length s0 : Int)) then
    (idx s0 s8).bind fun c1 =>
    (F_strings_asciiSet_contains c1 m16).bind fun x2 =>
    bif x2.1 then
      some s8
    else
      r1 s0 (w64 (s8 + (1 : Int))) x2.2
  else
    some (-1 : Int)
def F_strings_IndexAny_p1 (fu : Nat) : Nat → (List UInt8) → Int → (List Bool) → Option Int
  | 0, _, _, _ => none
  | n + 1, s0, s8, m16 => F_strings_IndexAny_b1 fu (F_strings_IndexAny_p1 fu n) s0 s8 m16
def F_strings_IndexAny_b3 (fu : Nat) (r3 : (List UInt8) → (List UInt8) → Nat → Option Int) (s1 : List UInt8) (m16_0 : List UInt8) (m16_1 : Nat) : Option Int :=
  bif Nat.blt m16_1 (List.length m16_0) then
    (F_strings_IndexRune fu s1 (((rdec m16_0 m16_1).1 : Nat) : Int)).bind fun x1 =>
    bif decide ((0 : Int) ≤ x1) then
      some ((m16_1 : Nat) : Int)
    else
      r3 s1 m16_0 (m16_1 + (rdec m16_0 m16_1).2)
  else
    some (-1 : Int)
def F_strings_IndexAny_p3 (fu : Nat) : Nat → (List UInt8) → (List UInt8) → Nat → Option Int
  | 0, _, _, _ => none
  | n + 1, s1, m16_0, m16_1 => F_strings_IndexAny_b3 fu (F_strings_IndexAny_p3 fu n) s1 m16_0 m16_1
def F_strings_IndexAny_p2 (fu : Nat) (s0 : List UInt8) (s1 : List UInt8) : Option Int :=
  F_strings_IndexAny_p3 fu fu s1 s0 0
def F_strings_IndexAny (fu : Nat) (p0 : List UInt8) (p1 : List UInt8) : Option Int :=
  bif p1 == ([] : List UInt8) then
    some (-1 : Int)
  else
    bif (List.length p1 : Int) == (1 : Int) then
      (idx p1 (0 : Int)).bind fun c1 =>
      bif decide ((128 : Int) ≤ (c1.toNat : Int)) then
        F_strings_IndexAny_p0 fu p0 (65533 : Int)
      else
        F_strings_IndexAny_p0 fu p0 (c1.toNat : Int)
    else
      (F_strings_shouldUseASCIISet (List.length p0 : Int)).bind fun x2 =>
      bif x2 then
        (F_strings_makeASCIISet fu p1).bind fun x3 =>
        bif decide (List.length x3.1 = List.length (List.replicate 256 false)) && decide (List.length x3.1 = 256) then
        bif x3.2 then
          F_strings_IndexAny_p1 fu fu p0 (0 : Int) x3.1
        else
          F_strings_IndexAny_p2 fu p0 p1
        else none
      else
        F_strings_IndexAny_p2 fu p0 p1
/- strings.ContainsAny -/
def F_strings_ContainsAny (fu : Nat) (p0 : List UInt8) (p1 : List UInt8) : Option Bool :=
  (F_strings_IndexAny fu p0 p1).bind fun x1 =>
  some (decide ((0 : Int) ≤ x1))
/- posthouse/fold.ends -/
def F_fold_ends (fu : Nat) (p0 : List UInt8) : Option Bool :=
  (F_strings_ContainsAny fu p0 ([13, 10, 0] : List UInt8)).bind fun x1 =>
  some x1
/- posthouse/fold.value -/
def F_fold_value (fu : Nat) (p0 : List UInt8) : Option Bool :=
  (F_fold_ends fu p0).bind fun x1 =>
  bif !x1 then
    bif p0 == ([] : List UInt8) then
      some true
    else
      (idx p0 (0 : Int)).bind fun c2 =>
      (F_basic_Blank c2).bind fun x3 =>
      bif !x3 then
        (idx p0 (w64 ((List.length p0 : Int) - (1 : Int)))).bind fun c4 =>
        (F_basic_Blank c4).bind fun x5 =>
        some (!x5)
      else
        some false
  else
    some false
/- posthouse/fold.point -/
def F_fold_point_p1 (fu : Nat) (r0 : (List UInt8) → Int → Int → Option Int) (s0 : List UInt8) (s5 : Int) (s6 : Int) (s26 : Bool) : Option Int :=
  bif s26 then
    r0 s0 s5 (w64 (s6 + (1 : Int)))
  else
    bif decide ((0 : Int) < s5) then
      bif decide ((78 : Int) < s6) then
        some s5
      else
        r0 s0 s6 (w64 (s6 + (1 : Int)))
    else
      r0 s0 s6 (w64 (s6 + (1 : Int)))
def F_fold_point_b0 (fu : Nat) (r0 : (List UInt8) → Int → Int → Option Int) (s0 : List UInt8) (s5 : Int) (s6 : Int) : Option Int :=
  bif decide (s6 < (List.length s0 : Int)) then
    (idx s0 s6).bind fun c1 =>
    (F_basic_Blank c1).bind fun x2 =>
    bif !x2 then
      F_fold_point_p1 fu r0 s0 s5 s6 true
    else
      (idx s0 (w64 (s6 - (1 : Int)))).bind fun c3 =>
      (F_basic_Blank c3).bind fun x4 =>
      F_fold_point_p1 fu r0 s0 s5 s6 x4
  else
    some s5
def F_fold_point_p0 (fu : Nat) : Nat → (List UInt8) → Int → Int → Option Int
  | 0, _, _, _ => none
  | n + 1, s0, s5, s6 => F_fold_point_b0 fu (F_fold_point_p0 fu n) s0 s5 s6
def F_fold_point (fu : Nat) (p0 : List UInt8) (p1 : Int) : Option Int :=
  F_fold_point_p0 fu fu p0 (0 : Int) (if (1 : Int) > p1 then (1 : Int) else p1)
/- posthouse/fold.Fold -/
def F_fold_Fold_b2 (fu : Nat) (r2 : Int → Int → (Int × Int) → (List (List UInt8)) → Option ((Int × Int) × (List (List UInt8)))) (s56 : Int) (s57 : Int) (m16 : Int × Int) (m17 : List (List UInt8)) : Option ((Int × Int) × (List (List UInt8))) :=
  bif decide (s57 < s56) then
    bif decide (0 ≤ s57 ∧ s57.toNat < List.length m17) then
    (m17[s57.toNat]?).bind fun y1 =>
    bif decide ((998 : Int) < (List.length y1 : Int)) then
      (F_basic_Fault (1 : Int) s57).bind fun x2 =>
      some (x2, [])
    else
      r2 s56 (w64 (s57 + (1 : Int))) m16 m17
    else none
  else
    (F_basic_None).bind fun x3 =>
    some (x3, m17)
def F_fold_Fold_p2 (fu : Nat) : Nat → Int → Int → (Int × Int) → (List (List UInt8)) → Option ((Int × Int) × (List (List UInt8)))
  | 0, _, _, _, _ => none
  | n + 1, s56, s57, m16, m17 => F_fold_Fold_b2 fu (F_fold_Fold_p2 fu n) s56 s57 m16 m17
def F_fold_Fold_p1 (fu : Nat) (s6 : List UInt8) (m16 : Int × Int) (m17 : List (List UInt8)) : Option ((Int × Int) × (List (List UInt8))) :=
  bif decide (List.length (m17 ++ ([s6] : List (List UInt8))) ≤ rowMax) then
  F_fold_Fold_p2 fu fu (List.length (m17 ++ ([s6] : List (List UInt8))) : Int) (0 : Int) m16 (m17 ++ ([s6] : List (List UInt8)))
  else none
def F_fold_Fold_b0 (fu : Nat) (r0 : (List UInt8) → Int → (Int × Int) → (List (List UInt8)) → Option ((Int × Int) × (List (List UInt8)))) (s6 : List UInt8) (s7 : Int) (m16 : Int × Int) (m17 : List (List UInt8)) : Option ((Int × Int) × (List (List UInt8))) :=
  bif decide ((78 : Int) < (List.length s6 : Int)) then
    (F_fold_point fu s6 s7).bind fun x1 =>
    bif x1 == (0 : Int) then
      F_fold_Fold_p1 fu s6 m16 m17
    else
      bif decide (0 ≤ x1 ∧ x1 ≤ (List.length s6 : Int)) then
      bif decide (List.length (m17 ++ ([List.take x1.toNat s6] : List (List UInt8))) ≤ rowMax) then
      bif decide (0 ≤ x1 ∧ x1 ≤ (List.length s6 : Int)) then
      r0 (List.drop x1.toNat s6) (0 : Int) m16 (m17 ++ ([List.take x1.toNat s6] : List (List UInt8)))
      else none
      else none
      else none
  else
    F_fold_Fold_p1 fu s6 m16 m17
def F_fold_Fold_p0 (fu : Nat) : Nat → (List UInt8) → Int → (Int × Int) → (List (List UInt8)) → Option ((Int × Int) × (List (List UInt8)))
  | 0, _, _, _, _ => none
  | n + 1, s6, s7, m16, m17 => F_fold_Fold_b0 fu (F_fold_Fold_p0 fu n) s6 s7 m16 m17
def F_fold_Fold (fu : Nat) (p0 : List UInt8) (p1 : List UInt8) : Option ((Int × Int) × (List (List UInt8))) :=
  (F_fold_name fu p0).bind fun x1 =>
  bif !x1 then
    (F_basic_Fault (10 : Int) (-1 : Int)).bind fun x2 =>
    some (x2, [])
  else
    bif decide ((4000 : Int) < (List.length p1 : Int)) then
      (F_basic_Fault (1 : Int) (-1 : Int)).bind fun x3 =>
      some (x3, [])
    else
      (F_fold_value fu p1).bind fun x4 =>
      bif !x4 then
        (F_basic_Fault (11 : Int) (-1 : Int)).bind fun x5 =>
        some (x5, [])
      else
        bif decide (List.length p0 + List.length ([58, 32] : List UInt8) ≤ strMax) then
        bif decide (List.length (p0 ++ ([58, 32] : List UInt8)) + List.length p1 ≤ strMax) then
        F_fold_Fold_p0 fu fu ((p0 ++ ([58, 32] : List UInt8)) ++ p1) (w64 ((List.length p0 : Int) + (2 : Int))) ((0 : Int), (0 : Int)) []
        else none
        else none
/- posthouse/basic.Failed -/
def F_basic_Failed (p0 : Int × Int) : Option Bool :=
  some (p0.1 != (0 : Int))
/- posthouse/header.name -/
def F_header_name (fu : Nat) (p0 : List UInt8) : Option Bool :=
  (F_fold_Fold fu p0 ([] : List UInt8)).bind fun x1 =>
  (F_basic_Failed x1.1).bind fun x2 =>
  some (!x2)
/- posthouse/header.begins -/
def F_header_begins (fu : Nat) (p0 : List UInt8) : Option (((List UInt8) × (List UInt8)) × Bool) :=
  (F_strings_Cut p0 ([58] : List UInt8)).bind fun x1 =>
  (F_strings_TrimRight fu x1.1 ([32, 9] : List UInt8)).bind fun x2 =>
  bif x1.2.2 then
    (F_header_name fu x2).bind fun x3 =>
    some ((x2, x1.2.1), x3)
  else
    some ((x2, x1.2.1), false)
/- (*strings.Replacer).build -/
abbrev R_strings_Replacer_build : Type := Int × Int × Int × (List (List UInt8)) × (List UInt8)
def F_strings_Replacer_build_p3 (fu : Nat) (r2 : (List (List UInt8)) → Bool → Int → Int → Int → Int → (List (List UInt8)) → Option R_strings_Replacer_build) (s3 : List (List UInt8)) (s4 : Bool) (s5 : Int) (m0_0 : Int) (m0_1 : Int) (m0_2 : Int) (m0_3 : List (List UInt8)) : Option R_strings_Replacer_build :=
  r2 s3 s4 (w64 (s5 + (2 : Int))) m0_0 m0_1 m0_2 m0_3
def F_strings_Replacer_build_b5 (fu : Nat) (r5 : (List (List UInt8)) → Int → Int → Int → Int → (List (List UInt8)) → (List UInt8) → Option R_strings_Replacer_build) (s3 : List (List UInt8)) (s8 : Int) (m0_0 : Int) (m0_1 : Int) (m0_2 : Int) (m0_3 : List (List UInt8)) (m16 : List UInt8) : Option R_strings_Replacer_build :=
  bif decide ((0 : Int) ≤ s8) then
    (idx s3 s8).bind fun y1 =>
    (idx y1 (0 : Int)).bind fun c2 =>
    (idx s3 (w64 (s8 + (1 : Int)))).bind fun y3 =>
    (idx y3 (0 : Int)).bind fun c4 =>
    (m16[c2.toNat]?).bind fun y5 =>
    r5 s3 (w64 (s8 - (2 : Int))) m0_0 m0_1 m0_2 m0_3 (List.set m16 c2.toNat c4)
  else
    some (m0_0, (m0_1, (m0_2, (m0_3, m16))))
def F_strings_Replacer_build_p5 (fu : Nat) : Nat → (List (List UInt8)) → Int → Int → Int → Int → (List (List UInt8)) → (List UInt8) → Option R_strings_Replacer_build
  | 0, _, _, _, _, _, _, _ => none
  | n + 1, s3, s8, m0_0, m0_1, m0_2, m0_3, m16 => F_strings_Replacer_build_b5 fu (F_strings_Replacer_build_p5 fu n) s3 s8 m0_0 m0_1 m0_2 m0_3 m16
def F_strings_Replacer_build_b4 (fu : Nat) (r4 : (List (List UInt8)) → Int → Int → Int → Int → (List (List UInt8)) → (List UInt8) → Option R_strings_Replacer_build) (s3 : List (List UInt8)) (s61 : Int) (m0_0 : Int) (m0_1 : Int) (m0_2 : Int) (m0_3 : List (List UInt8)) (m16 : List UInt8) : Option R_strings_Replacer_build :=
  bif decide (s61 < (256 : Int)) then
    bif decide (0 ≤ s61) && decide (s61 < (256 : Int)) then
    (m16[s61.toNat]?).bind fun y1 =>
    r4 s3 (w64 (s61 + (1 : Int))) m0_0 m0_1 m0_2 m0_3 (List.set m16 s61.toNat (toU8 s61))
    else none
  else
    F_strings_Replacer_build_p5 fu fu s3 (w64 ((List.length s3 : Int) - (2 : Int))) m0_0 m0_1 m0_2 m0_3 m16
def F_strings_Replacer_build_p4 (fu : Nat) : Nat → (List (List UInt8)) → Int → Int → Int → Int → (List (List UInt8)) → (List UInt8) → Option R_strings_Replacer_build
  | 0, _, _, _, _, _, _, _ => none
  | n + 1, s3, s61, m0_0, m0_1, m0_2, m0_3, m16 => F_strings_Replacer_build_b4 fu (F_strings_Replacer_build_p4 fu n) s3 s61 m0_0 m0_1 m0_2 m0_3 m16
def F_strings_Replacer_build_b2 (fu : Nat) (r2 : (List (List UInt8)) → Bool → Int → Int → Int → Int → (List (List UInt8)) → Option R_strings_Replacer_build) (s3 : List (List UInt8)) (s4 : Bool) (s5 : Int) (m0_0 : Int) (m0_1 : Int) (m0_2 : Int) (m0_3 : List (List UInt8)) : Option R_strings_Replacer_build :=
  bif decide (s5 < (List.length s3 : Int)) then
    (idx s3 s5).bind fun y1 =>
    bif (List.length y1 : Int) != (1 : Int) then
      none
    else
      (idx s3 (w64 (s5 + (1 : Int)))).bind fun y2 =>
      bif (List.length y2 : Int) != (1 : Int) then
        F_strings_Replacer_build_p3 fu r2 s3 false s5 m0_0 m0_1 m0_2 m0_3
      else
        F_strings_Replacer_build_p3 fu r2 s3 s4 s5 m0_0 m0_1 m0_2 m0_3
  else
    bif s4 then
      bif decide (List.length (List.replicate 256 (0 : UInt8)) = List.length (List.replicate 256 (0 : UInt8))) && decide (List.length (List.replicate 256 (0 : UInt8)) = 256) then
      F_strings_Replacer_build_p4 fu fu s3 (0 : Int) m0_0 m0_1 m0_2 m0_3 (List.replicate 256 (0 : UInt8))
      else none
    else
      none
def F_strings_Replacer_build_p2 (fu : Nat) : Nat → (List (List UInt8)) → Bool → Int → Int → Int → Int → (List (List UInt8)) → Option R_strings_Replacer_build
  | 0, _, _, _, _, _, _, _ => none
  | n + 1, s3, s4, s5, m0_0, m0_1, m0_2, m0_3 => F_strings_Replacer_build_b2 fu (F_strings_Replacer_build_p2 fu n) s3 s4 s5 m0_0 m0_1 m0_2 m0_3
def F_strings_Replacer_build_p1 (fu : Nat) (s3 : List (List UInt8)) (m0_0 : Int) (m0_1 : Int) (m0_2 : Int) (m0_3 : List (List UInt8)) : Option R_strings_Replacer_build :=
  F_strings_Replacer_build_p2 fu fu s3 true (0 : Int) m0_0 m0_1 m0_2 m0_3
def F_strings_Replacer_build_p0 (fu : Nat) (s3 : List (List UInt8)) (s28 : Bool) (m0_0 : Int) (m0_1 : Int) (m0_2 : Int) (m0_3 : List (List UInt8)) : Option R_strings_Replacer_build :=
  bif s28 then
    (idx s3 (0 : Int)).bind fun y1 =>
    (idx s3 (1 : Int)).bind fun y2 =>
    none
  else
    F_strings_Replacer_build_p1 fu s3 m0_0 m0_1 m0_2 m0_3
def F_strings_Replacer_build (fu : Nat) (p0 : Int) (p1 : Int) (p2 : Int) (p3 : List (List UInt8)) : Option R_strings_Replacer_build :=
  bif (List.length p3 : Int) == (2 : Int) then
    (idx p3 (0 : Int)).bind fun y1 =>
    F_strings_Replacer_build_p0 fu p3 (decide ((1 : Int) < (List.length y1 : Int))) p0 p1 p2 p3
  else
    F_strings_Replacer_build_p0 fu p3 false p0 p1 p2 p3
/- (*strings.Replacer).buildOnce -/
abbrev R_strings_Replacer_buildOnce : Type := Int × Int × Int × (List UInt8) × (List (List UInt8))
def F_strings_Replacer_buildOnce (fu : Nat) (p0 : Int) (p1 : Int) (p2 : Int) (p3 : List (List UInt8)) : Option R_strings_Replacer_buildOnce :=
  (F_strings_Replacer_build fu p0 p1 p2 p3).bind fun x1 =>
  some (x1.1, (x1.2.1, (x1.2.2.1, (x1.2.2.2.2, []))))
/- (*strings.byteReplacer).Replace -/
def F_strings_byteReplacer_Replace_p1 (fu : Nat) (r2 : (List UInt8) → Int → (List UInt8) → (List UInt8) → Option ((List UInt8) × (List UInt8))) (s1 : List UInt8) (s6 : Int) (s7 : UInt8) (m0 : List UInt8) (m16 : List UInt8) : Option ((List UInt8) × (List UInt8)) :=
  (m0[s7.toNat]?).bind fun y1 =>
  bif decide (0 ≤ s6 ∧ s6.toNat < List.length m16) then
  (m16[s6.toNat]?).bind fun y2 =>
  r2 s1 (w64 (s6 + (1 : Int))) m0 (List.set m16 s6.toNat y1)
  else none
def F_strings_byteReplacer_Replace_b2 (fu : Nat) (r2 : (List UInt8) → Int → (List UInt8) → (List UInt8) → Option ((List UInt8) × (List UInt8))) (s1 : List UInt8) (s6 : Int) (m0 : List UInt8) (m16 : List UInt8) : Option ((List UInt8) × (List UInt8)) :=
  bif decide (s6 < (List.length s1 : Int)) then
    (idx s1 s6).bind fun c1 =>
    (m0[c1.toNat]?).bind fun y2 =>
    bif y2 != c1 then
      bif decide (0 < List.length m16) then
      F_strings_byteReplacer_Replace_p1 fu r2 s1 s6 c1 m0 m16
      else none
    else
      r2 s1 (w64 (s6 + (1 : Int))) m0 m16
  else
    bif decide (0 < List.length m16) then
    some (m16, m0)
    else none
def F_strings_byteReplacer_Replace_p2 (fu : Nat) : Nat → (List UInt8) → Int → (List UInt8) → (List UInt8) → Option ((List UInt8) × (List UInt8))
  | 0, _, _, _, _ => none
  | n + 1, s1, s6, m0, m16 => F_strings_byteReplacer_Replace_b2 fu (F_strings_byteReplacer_Replace_p2 fu n) s1 s6 m0 m16
def F_strings_byteReplacer_Replace_b0 (fu : Nat) (r0 : (List UInt8) → Int → (List UInt8) → Option ((List UInt8) × (List UInt8))) (s1 : List UInt8) (s6 : Int) (m0 : List UInt8) : Option ((List UInt8) × (List UInt8)) :=
  bif decide (s6 < (List.length s1 : Int)) then
    (idx s1 s6).bind fun c1 =>
    (m0[c1.toNat]?).bind fun y2 =>
    bif y2 != c1 then
      bif decide (List.length s1 ≤ maxLen) then
      F_strings_byteReplacer_Replace_p1 fu (F_strings_byteReplacer_Replace_p2 fu fu) s1 s6 c1 m0 s1
      else none
    else
      r0 s1 (w64 (s6 + (1 : Int))) m0
  else
    some (s1, m0)
def F_strings_byteReplacer_Replace_p0 (fu : Nat) : Nat → (List UInt8) → Int → (List UInt8) → Option ((List UInt8) × (List UInt8))
  | 0, _, _, _ => none
  | n + 1, s1, s6, m0 => F_strings_byteReplacer_Replace_b0 fu (F_strings_byteReplacer_Replace_p0 fu n) s1 s6 m0
def F_strings_byteReplacer_Replace (fu : Nat) (p0 : List UInt8) (p1 : List UInt8) : Option ((List UInt8) × (List UInt8)) :=
  F_strings_byteReplacer_Replace_p0 fu fu p0 (0 : Int) p1
/- strings.Replacer's Replace as an entry: the first call, and the later ones. -/
def F_repl_first (fu : Nat) (s : List UInt8) (p0 p1 p2 : Int) (on : List (List UInt8)) : Option (List UInt8 × Int × Int × Int × List UInt8) :=
  bif decide (p0 = 0) && decide (p1 = 0) then
  (F_strings_Replacer_buildOnce fu 0 1 p2 on).bind fun x =>
  bif decide (x.1 = 0) && decide (x.2.1 = 1) then
  (F_strings_byteReplacer_Replace fu s x.2.2.2.1).bind fun y =>
  some (y.1, 1, 0, x.2.2.1, y.2)
  else none else none
def F_repl_later (fu : Nat) (s : List UInt8) (p0 p1 p2 : Int) (tab : List UInt8) : Option (List UInt8 × Int × Int × Int × List UInt8) :=
  bif !decide (p0 = 0) then
  (F_strings_byteReplacer_Replace fu s tab).bind fun y =>
  some (y.1, p0, p1, p2, y.2)
  else none

/- strings.trimLeftByte -/
def F_strings_trimLeftByte_b0 (fu : Nat) (r0 : (List UInt8) → UInt8 → Option ((List UInt8))) (s0 : List UInt8) (s1 : UInt8) : Option ((List UInt8)) :=
  bif decide ((0 : Int) < (List.length s0 : Int)) then
    (idx s0 (0 : Int)).bind fun c1 =>
    bif c1 == s1 then
      bif decide (0 ≤ (1 : Int) ∧ (1 : Int) ≤ (List.length s0 : Int)) then
      r0 (List.drop (1 : Int).toNat s0) s1
      else none
    else
      some s0
  else
    some s0
def F_strings_trimLeftByte_p0 (fu : Nat) : Nat → (List UInt8) → UInt8 → Option ((List UInt8))
  | 0, _, _ => none
  | n + 1, s0, s1 => F_strings_trimLeftByte_b0 fu (F_strings_trimLeftByte_p0 fu n) s0 s1
def F_strings_trimLeftByte (fu : Nat) (p0 : List UInt8) (p1 : UInt8) : Option ((List UInt8)) :=
  F_strings_trimLeftByte_p0 fu fu p0 p1
/- strings.trimLeftASCII -/
def F_strings_trimLeftASCII_b0 (fu : Nat) (r0 : (List UInt8) → (List Bool) → Option ((List UInt8) × (List Bool))) (s0 : List UInt8) (m0 : List Bool) : Option ((List UInt8) × (List Bool)) :=
  bif decide ((0 : Int) < (List.length s0 : Int)) then
    (idx s0 (0 : Int)).bind fun c1 =>
    (F_strings_asciiSet_contains c1 m0).bind fun x2 =>
    bif !x2.1 then
      some (s0, x2.2)
    else
      bif decide (0 ≤ (1 : Int) ∧ (1 : Int) ≤ (List.length s0 : Int)) then
      r0 (List.drop (1 : Int).toNat s0) x2.2
      else none
  else
    some (s0, m0)
def F_strings_trimLeftASCII_p0 (fu : Nat) : Nat → (List UInt8) → (List Bool) → Option ((List UInt8) × (List Bool))
  | 0, _, _ => none
  | n + 1, s0, m0 => F_strings_trimLeftASCII_b0 fu (F_strings_trimLeftASCII_p0 fu n) s0 m0
def F_strings_trimLeftASCII (fu : Nat) (p0 : List UInt8) (p1 : List Bool) : Option ((List UInt8) × (List Bool)) :=
  F_strings_trimLeftASCII_p0 fu fu p0 p1
/- strings.trimLeftUnicode -/
def F_strings_trimLeftUnicode_b0 (fu : Nat) (r0 : (List UInt8) → (List UInt8) → Option ((List UInt8))) (s0 : List UInt8) (s1 : List UInt8) : Option ((List UInt8)) :=
  bif decide ((0 : Int) < (List.length s0 : Int)) then
    (F_unicode_utf8_DecodeRuneInString s0).bind fun x1 =>
    (F_strings_ContainsRune fu s1 x1.1).bind fun x2 =>
    bif !x2 then
      some s0
    else
      bif decide (0 ≤ x1.2 ∧ x1.2 ≤ (List.length s0 : Int)) then
      r0 (List.drop x1.2.toNat s0) s1
      else none
  else
    some s0
def F_strings_trimLeftUnicode_p0 (fu : Nat) : Nat → (List UInt8) → (List UInt8) → Option ((List UInt8))
  | 0, _, _ => none
  | n + 1, s0, s1 => F_strings_trimLeftUnicode_b0 fu (F_strings_trimLeftUnicode_p0 fu n) s0 s1
def F_strings_trimLeftUnicode (fu : Nat) (p0 : List UInt8) (p1 : List UInt8) : Option ((List UInt8)) :=
  F_strings_trimLeftUnicode_p0 fu fu p0 p1
/- strings.Trim -/
def F_strings_Trim_p3 (fu : Nat) (s0 : List UInt8) (s1 : List UInt8) : Option ((List UInt8)) :=
  (F_strings_makeASCIISet fu s1).bind fun x1 =>
  bif decide (List.length x1.1 = List.length (List.replicate 256 false)) && decide (List.length x1.1 = 256) then
  bif x1.2 then
    (F_strings_trimRightASCII fu s0 x1.1).bind fun x2 =>
    (F_strings_trimLeftASCII fu x2.1 x2.2).bind fun x3 =>
    some x3.1
  else
    (F_strings_trimRightUnicode fu s0 s1).bind fun x4 =>
    (F_strings_trimLeftUnicode fu x4 s1).bind fun x5 =>
    some x5
  else none
def F_strings_Trim_p2 (fu : Nat) (s0 : List UInt8) (s1 : List UInt8) (s21 : Bool) : Option ((List UInt8)) :=
  bif s21 then
    (idx s1 (0 : Int)).bind fun c1 =>
    (F_strings_trimRightByte fu s0 c1).bind fun x2 =>
    (idx s1 (0 : Int)).bind fun c3 =>
    (F_strings_trimLeftByte fu x2 c3).bind fun x4 =>
    some x4
  else
    F_strings_Trim_p3 fu s0 s1
def F_strings_Trim_p1 (fu : Nat) (s0 : List UInt8) (s1 : List UInt8) : Option ((List UInt8)) :=
  bif (List.length s1 : Int) == (1 : Int) then
    (idx s1 (0 : Int)).bind fun c1 =>
    F_strings_Trim_p2 fu s0 s1 (decide (c1 < (128 : UInt8)))
  else
    F_strings_Trim_p2 fu s0 s1 false
def F_strings_Trim_p0 (fu : Nat) (s0 : List UInt8) (s1 : List UInt8) (s12 : Bool) : Option ((List UInt8)) :=
  bif s12 then
    some s0
  else
    F_strings_Trim_p1 fu s0 s1
def F_strings_Trim (fu : Nat) (p0 : List UInt8) (p1 : List UInt8) : Option ((List UInt8)) :=
  bif p0 == ([] : List UInt8) then
    F_strings_Trim_p0 fu p0 p1 true
  else
    F_strings_Trim_p0 fu p0 p1 (p1 == ([] : List UInt8))
/- posthouse/header.Read -/
abbrev R_header_Read : Type := Int × (Int × Int) × (List ((List UInt8) × (List UInt8)))
def F_header_Read_b5 (fu : Nat) (r5 : Int → Int → Int → (Int × Int) → (List ((List UInt8) × (List UInt8))) → Int → Int → Int → (List UInt8) → Option R_header_Read) (s6 : Int) (s77 : Int) (s78 : Int) (m16 : Int × Int) (m17 : List ((List UInt8) × (List UInt8))) (m18_0 : Int) (m18_1 : Int) (m18_2 : Int) (m19 : List UInt8) : Option R_header_Read :=
  bif decide (s78 < s77) then
    bif decide (0 ≤ s78 ∧ s78.toNat < List.length m17) then
    (m17[s78.toNat]?).bind fun y1 =>
    (F_repl_later fu y1.2 m18_0 m18_1 m18_2 m19).bind fun x2 =>
    (F_strings_Trim fu x2.1 ([32, 9] : List UInt8)).bind fun x3 =>
    bif decide ((4000 : Int) < (List.length x3 : Int)) then
      (F_basic_Fault (1 : Int) s78).bind fun x4 =>
      some ((0 : Int), (x4, []))
    else
      bif decide (0 ≤ s78 ∧ s78.toNat < List.length m17) then
      (m17[s78.toNat]?).bind fun y5 =>
      r5 s6 s77 (w64 (s78 + (1 : Int))) m16 (List.set m17 s78.toNat (y5.1, x3)) x2.2.1 x2.2.2.1 x2.2.2.2.1 x2.2.2.2.2
      else none
    else none
  else
    (F_basic_None).bind fun x6 =>
    some (s6, (x6, m17))
def F_header_Read_p5 (fu : Nat) : Nat → Int → Int → Int → (Int × Int) → (List ((List UInt8) × (List UInt8))) → Int → Int → Int → (List UInt8) → Option R_header_Read
  | 0, _, _, _, _, _, _, _, _, _ => none
  | n + 1, s6, s77, s78, m16, m17, m18_0, m18_1, m18_2, m19 => F_header_Read_b5 fu (F_header_Read_p5 fu n) s6 s77 s78 m16 m17 m18_0 m18_1 m18_2 m19
def F_header_Read_b3 (fu : Nat) (r3 : Int → Int → (Int × Int) → Int → Int → Int → (List (List UInt8)) → (List ((List UInt8) × (List UInt8))) → Option R_header_Read) (s6 : Int) (s77 : Int) (m16 : Int × Int) (m17_0 : Int) (m17_1 : Int) (m17_2 : Int) (m18 : List (List UInt8)) (m19 : List ((List UInt8) × (List UInt8))) : Option R_header_Read :=
  bif decide ((0 : Int) < s77) then
    bif decide (0 ≤ (0 : Int) ∧ (0 : Int).toNat < List.length m19) then
    (m19[(0 : Int).toNat]?).bind fun y1 =>
    (F_repl_first fu y1.2 m17_0 m17_1 m17_2 m18).bind fun x2 =>
    (F_strings_Trim fu x2.1 ([32, 9] : List UInt8)).bind fun x3 =>
    bif decide ((4000 : Int) < (List.length x3 : Int)) then
      (F_basic_Fault (1 : Int) (0 : Int)).bind fun x4 =>
      some ((0 : Int), (x4, []))
    else
      bif decide (0 ≤ (0 : Int) ∧ (0 : Int).toNat < List.length m19) then
      (m19[(0 : Int).toNat]?).bind fun y5 =>
      F_header_Read_p5 fu fu s6 s77 (1 : Int) m16 (List.set m19 ((0 : Int).toNat) (y5.1, x3)) x2.2.1 x2.2.2.1 x2.2.2.2.1 x2.2.2.2.2
      else none
    else none
  else
    (F_basic_None).bind fun x6 =>
    some (s6, (x6, m19))
def F_header_Read_p3 (fu : Nat) : Nat → Int → Int → (Int × Int) → Int → Int → Int → (List (List UInt8)) → (List ((List UInt8) × (List UInt8))) → Option R_header_Read
  | 0, _, _, _, _, _, _, _, _ => none
  | n + 1, s6, s77, m16, m17_0, m17_1, m17_2, m18, m19 => F_header_Read_b3 fu (F_header_Read_p3 fu n) s6 s77 m16 m17_0 m17_1 m17_2 m18 m19
def F_header_Read_p1 (fu : Nat) (s6 : Int) (m16 : Int × Int) (m17 : List ((List UInt8) × (List UInt8))) : Option R_header_Read :=
  bif decide ((60 : Int) < (List.length m17 : Int)) then
    (F_basic_Fault (2 : Int) (-2 : Int)).bind fun x1 =>
    some ((0 : Int), (x1, []))
  else
    (F_strings_NewReplacer ([([0] : List UInt8), ([32] : List UInt8), ([13] : List UInt8), ([32] : List UInt8)] : List (List UInt8))).bind fun x2 =>
    F_header_Read_p3 fu fu s6 (List.length m17 : Int) m16 x2.1 x2.2.1 x2.2.2.1 x2.2.2.2 m17
def F_header_Read_p4 (fu : Nat) (r0 : (List UInt8) → Int → (Int × Int) → (List ((List UInt8) × (List UInt8))) → Option R_header_Read) (s0 : List UInt8) (s6 : Int) (s7 : List UInt8) (s8 : Int) (m16 : Int × Int) (m17 : List ((List UInt8) × (List UInt8))) : Option R_header_Read :=
  (F_header_begins fu s7).bind fun x1 =>
  bif !x1.2 then
    F_header_Read_p1 fu s6 m16 m17
  else
    bif decide (List.length (m17 ++ ([x1.1] : List ((List UInt8) × (List UInt8)))) ≤ rowMax) then
    r0 s0 (w64 (s6 + s8)) m16 (m17 ++ ([x1.1] : List ((List UInt8) × (List UInt8))))
    else none
def F_header_Read_p2 (fu : Nat) (r0 : (List UInt8) → Int → (Int × Int) → (List ((List UInt8) × (List UInt8))) → Option R_header_Read) (s0 : List UInt8) (s6 : Int) (s7 : List UInt8) (s8 : Int) (s41 : Bool) (m16 : Int × Int) (m17 : List ((List UInt8) × (List UInt8))) : Option R_header_Read :=
  bif s41 then
    bif decide (0 ≤ w64 ((List.length m17 : Int) - (1 : Int)) ∧ (w64 ((List.length m17 : Int) - (1 : Int))).toNat < List.length m17) then
    (m17[(w64 ((List.length m17 : Int) - (1 : Int))).toNat]?).bind fun y1 =>
    bif decide (List.length y1.2 + List.length s7 ≤ strMax) then
    bif decide (0 ≤ w64 ((List.length m17 : Int) - (1 : Int)) ∧ (w64 ((List.length m17 : Int) - (1 : Int))).toNat < List.length m17) then
    (m17[(w64 ((List.length m17 : Int) - (1 : Int))).toNat]?).bind fun y2 =>
    r0 s0 (w64 (s6 + s8)) m16 (List.set m17 ((w64 ((List.length m17 : Int) - (1 : Int))).toNat) (y2.1, y1.2 ++ s7))
    else none
    else none
    else none
  else
    F_header_Read_p4 fu r0 s0 s6 s7 s8 m16 m17
def F_header_Read_b0 (fu : Nat) (r0 : (List UInt8) → Int → (Int × Int) → (List ((List UInt8) × (List UInt8))) → Option R_header_Read) (s0 : List UInt8) (s6 : Int) (m16 : Int × Int) (m17 : List ((List UInt8) × (List UInt8))) : Option R_header_Read :=
  bif decide (s6 < (List.length s0 : Int)) then
    bif decide (0 ≤ s6 ∧ s6 ≤ (List.length s0 : Int)) then
    (F_header_line (List.drop s6.toNat s0)).bind fun x1 =>
    bif x1.1 == ([] : List UInt8) then
      F_header_Read_p1 fu (w64 (s6 + x1.2)) m16 m17
    else
      (idx x1.1 (0 : Int)).bind fun c2 =>
      (F_basic_Blank c2).bind fun x3 =>
      bif x3 then
        F_header_Read_p2 fu r0 s0 s6 x1.1 x1.2 (decide ((0 : Int) < (List.length m17 : Int))) m16 m17
      else
        F_header_Read_p2 fu r0 s0 s6 x1.1 x1.2 false m16 m17
    else none
  else
    F_header_Read_p1 fu s6 m16 m17
def F_header_Read_p0 (fu : Nat) : Nat → (List UInt8) → Int → (Int × Int) → (List ((List UInt8) × (List UInt8))) → Option R_header_Read
  | 0, _, _, _, _ => none
  | n + 1, s0, s6, m16, m17 => F_header_Read_b0 fu (F_header_Read_p0 fu n) s0 s6 m16 m17
def F_header_Read (fu : Nat) (p0 : List UInt8) : Option R_header_Read :=
  bif decide ((12000 : Int) < (List.length p0 : Int)) then
    (F_basic_Fault (1 : Int) (-1 : Int)).bind fun x1 =>
    some ((0 : Int), (x1, []))
  else
    F_header_Read_p0 fu fu p0 (0 : Int) ((0 : Int), (0 : Int)) []
/- posthouse/message.lines -/
def F_message_lines_p2 (fu : Nat) (r0 : (List UInt8) → Int → (List UInt8) → Option ((List UInt8))) (s0 : List UInt8) (s4 : Int) (s44 : Bool) (m16 : List UInt8) : Option ((List UInt8)) :=
  bif s44 then
    bif decide (List.length (m16 ++ ([(13 : UInt8), (10 : UInt8)] : List UInt8)) ≤ rowMax) then
    r0 s0 (w64 (s4 + (1 : Int))) (m16 ++ ([(13 : UInt8), (10 : UInt8)] : List UInt8))
    else none
  else
    (idx s0 s4).bind fun y1 =>
    bif decide (List.length (m16 ++ ([y1] : List UInt8)) ≤ rowMax) then
    r0 s0 (w64 (s4 + (1 : Int))) (m16 ++ ([y1] : List UInt8))
    else none
def F_message_lines_p1 (fu : Nat) (r0 : (List UInt8) → Int → (List UInt8) → Option ((List UInt8))) (s0 : List UInt8) (s4 : Int) (s18 : Bool) (m16 : List UInt8) : Option ((List UInt8)) :=
  bif s18 then
    bif decide (List.length (m16 ++ ([(13 : UInt8), (10 : UInt8)] : List UInt8)) ≤ rowMax) then
    r0 s0 (w64 ((w64 (s4 + (1 : Int))) + (1 : Int))) (m16 ++ ([(13 : UInt8), (10 : UInt8)] : List UInt8))
    else none
  else
    (idx s0 s4).bind fun y1 =>
    bif y1 == (13 : UInt8) then
      F_message_lines_p2 fu r0 s0 s4 true m16
    else
      (idx s0 s4).bind fun y2 =>
      F_message_lines_p2 fu r0 s0 s4 (y2 == (10 : UInt8)) m16
def F_message_lines_b0 (fu : Nat) (r0 : (List UInt8) → Int → (List UInt8) → Option ((List UInt8))) (s0 : List UInt8) (s4 : Int) (m16 : List UInt8) : Option ((List UInt8)) :=
  bif decide (s4 < (List.length s0 : Int)) then
    (idx s0 s4).bind fun y1 =>
    bif y1 == (13 : UInt8) then
      bif decide ((w64 (s4 + (1 : Int))) < (List.length s0 : Int)) then
        (idx s0 (w64 (s4 + (1 : Int)))).bind fun y2 =>
        F_message_lines_p1 fu r0 s0 s4 (y2 == (10 : UInt8)) m16
      else
        F_message_lines_p1 fu r0 s0 s4 false m16
    else
      F_message_lines_p1 fu r0 s0 s4 false m16
  else
    some m16
def F_message_lines_p0 (fu : Nat) : Nat → (List UInt8) → Int → (List UInt8) → Option ((List UInt8))
  | 0, _, _, _ => none
  | n + 1, s0, s4, m16 => F_message_lines_b0 fu (F_message_lines_p0 fu n) s0 s4 m16
def F_message_lines (fu : Nat) (p0 : List UInt8) : Option ((List UInt8)) :=
  F_message_lines_p0 fu fu p0 (0 : Int) []
/- posthouse/header.Validate -/
def F_header_Validate_b0 (fu : Nat) (r0 : (List ((List UInt8) × (List UInt8))) → Int → Int → (Int × Int) → Option ((Int × Int))) (s11 : List ((List UInt8) × (List UInt8))) (s12 : Int) (s13 : Int) (m16 : Int × Int) : Option ((Int × Int)) :=
  bif decide (s13 < s12) then
    (idx s11 s13).bind fun y1 =>
    (F_fold_Fold fu y1.1 y1.2).bind fun x2 =>
    (F_basic_Failed x2.1).bind fun x3 =>
    bif x3 then
      (F_basic_Fault x2.1.1 s13).bind fun x4 =>
      some x4
    else
      r0 s11 s12 (w64 (s13 + (1 : Int))) m16
  else
    (F_basic_None).bind fun x5 =>
    some x5
def F_header_Validate_p0 (fu : Nat) : Nat → (List ((List UInt8) × (List UInt8))) → Int → Int → (Int × Int) → Option ((Int × Int))
  | 0, _, _, _, _ => none
  | n + 1, s11, s12, s13, m16 => F_header_Validate_b0 fu (F_header_Validate_p0 fu n) s11 s12 s13 m16
def F_header_Validate (fu : Nat) (p0 : List ((List UInt8) × (List UInt8))) : Option ((Int × Int)) :=
  bif decide ((60 : Int) < (List.length p0 : Int)) then
    (F_basic_Fault (2 : Int) (-1 : Int)).bind fun x1 =>
    some x1
  else
    F_header_Validate_p0 fu fu p0 (List.length p0 : Int) (0 : Int) ((0 : Int), (0 : Int))
/- posthouse/message.write -/
def F_message_write_b1 (fu : Nat) (r0 : (List ((List UInt8) × (List UInt8))) → Int → Int → ((List ((List UInt8) × (List UInt8))) × (List UInt8)) → (List UInt8) → Option ((List UInt8))) (r1 : (List ((List UInt8) × (List UInt8))) → Int → Int → Int → Int → ((List ((List UInt8) × (List UInt8))) × (List UInt8)) → (List (List UInt8)) → (List UInt8) → Option ((List UInt8))) (s11 : List ((List UInt8) × (List UInt8))) (s12 : Int) (s13 : Int) (s26 : Int) (s27 : Int) (m16 : (List ((List UInt8) × (List UInt8))) × (List UInt8)) (m17 : List (List UInt8)) (m18 : List UInt8) : Option ((List UInt8)) :=
  bif decide (s27 < s26) then
    bif decide (0 ≤ s27 ∧ s27.toNat < List.length m17) then
    (m17[s27.toNat]?).bind fun y1 =>
    bif decide (List.length (m18 ++ y1) ≤ rowMax) then
    bif decide (List.length ((m18 ++ y1) ++ ([(13 : UInt8), (10 : UInt8)] : List UInt8)) ≤ rowMax) then
    r1 s11 s12 s13 s26 (w64 (s27 + (1 : Int))) m16 m17 ((m18 ++ y1) ++ ([(13 : UInt8), (10 : UInt8)] : List UInt8))
    else none
    else none
    else none
  else
    r0 s11 s12 (w64 (s13 + (1 : Int))) m16 m18
def F_message_write_p1 (fu : Nat) (r0 : (List ((List UInt8) × (List UInt8))) → Int → Int → ((List ((List UInt8) × (List UInt8))) × (List UInt8)) → (List UInt8) → Option ((List UInt8))) : Nat → (List ((List UInt8) × (List UInt8))) → Int → Int → Int → Int → ((List ((List UInt8) × (List UInt8))) × (List UInt8)) → (List (List UInt8)) → (List UInt8) → Option ((List UInt8))
  | 0, _, _, _, _, _, _, _, _ => none
  | n + 1, s11, s12, s13, s26, s27, m16, m17, m18 => F_message_write_b1 fu r0 (F_message_write_p1 fu r0 n) s11 s12 s13 s26 s27 m16 m17 m18
def F_message_write_b0 (fu : Nat) (r0 : (List ((List UInt8) × (List UInt8))) → Int → Int → ((List ((List UInt8) × (List UInt8))) × (List UInt8)) → (List UInt8) → Option ((List UInt8))) (s11 : List ((List UInt8) × (List UInt8))) (s12 : Int) (s13 : Int) (m16 : (List ((List UInt8) × (List UInt8))) × (List UInt8)) (m17 : List UInt8) : Option ((List UInt8)) :=
  bif decide (s13 < s12) then
    (idx s11 s13).bind fun y1 =>
    (F_fold_Fold fu y1.1 y1.2).bind fun x2 =>
    F_message_write_p1 fu r0 fu s11 s12 s13 (List.length x2.2 : Int) (0 : Int) m16 x2.2 m17
  else
    bif decide (List.length (m17 ++ ([(13 : UInt8), (10 : UInt8)] : List UInt8)) ≤ rowMax) then
    bif decide (List.length ((m17 ++ ([(13 : UInt8), (10 : UInt8)] : List UInt8)) ++ m16.2) ≤ rowMax) then
    some ((m17 ++ ([(13 : UInt8), (10 : UInt8)] : List UInt8)) ++ m16.2)
    else none
    else none
def F_message_write_p0 (fu : Nat) : Nat → (List ((List UInt8) × (List UInt8))) → Int → Int → ((List ((List UInt8) × (List UInt8))) × (List UInt8)) → (List UInt8) → Option ((List UInt8))
  | 0, _, _, _, _, _ => none
  | n + 1, s11, s12, s13, m16, m17 => F_message_write_b0 fu (F_message_write_p0 fu n) s11 s12 s13 m16 m17
def F_message_write (fu : Nat) (p0 : (List ((List UInt8) × (List UInt8))) × (List UInt8)) : Option ((List UInt8)) :=
  F_message_write_p0 fu fu p0.1 (List.length p0.1 : Int) (0 : Int) p0 []
/- posthouse/basic.Body -/
def F_basic_Body_p2 (fu : Nat) (r0 : (List UInt8) → Int → Int → Option Int) (s0 : List UInt8) (s3 : Int) (s4 : Int) (s5 : UInt8) : Option Int :=
  bif s5 == (13 : UInt8) then
    some (11 : Int)
  else
    bif s5 == (10 : UInt8) then
      some (11 : Int)
    else
      bif decide ((998 : Int) < (w64 (s3 + (1 : Int)))) then
        some (1 : Int)
      else
        r0 s0 (w64 (s3 + (1 : Int))) (w64 (s4 + (1 : Int)))
def F_basic_Body_p1 (fu : Nat) (r0 : (List UInt8) → Int → Int → Option Int) (s0 : List UInt8) (s3 : Int) (s4 : Int) (s5 : UInt8) (s32 : Bool) : Option Int :=
  bif s32 then
    r0 s0 (0 : Int) (w64 ((w64 (s4 + (1 : Int))) + (1 : Int)))
  else
    F_basic_Body_p2 fu r0 s0 s3 s4 s5
def F_basic_Body_b0 (fu : Nat) (r0 : (List UInt8) → Int → Int → Option Int) (s0 : List UInt8) (s3 : Int) (s4 : Int) : Option Int :=
  bif decide (s4 < (List.length s0 : Int)) then
    (idx s0 s4).bind fun y1 =>
    bif y1 == (13 : UInt8) then
      bif decide ((w64 (s4 + (1 : Int))) < (List.length s0 : Int)) then
        (idx s0 (w64 (s4 + (1 : Int)))).bind fun y2 =>
        F_basic_Body_p1 fu r0 s0 s3 s4 y1 (y2 == (10 : UInt8))
      else
        F_basic_Body_p1 fu r0 s0 s3 s4 y1 false
    else
      F_basic_Body_p1 fu r0 s0 s3 s4 y1 false
  else
    some (0 : Int)
def F_basic_Body_p0 (fu : Nat) : Nat → (List UInt8) → Int → Int → Option Int
  | 0, _, _, _ => none
  | n + 1, s0, s3, s4 => F_basic_Body_b0 fu (F_basic_Body_p0 fu n) s0 s3 s4
def F_basic_Body (fu : Nat) (p0 : List UInt8) : Option Int :=
  F_basic_Body_p0 fu fu p0 (0 : Int) (0 : Int)
/- posthouse/message.body -/
def F_message_body (fu : Nat) (p0 : List UInt8) : Option ((Int × Int)) :=
  (F_basic_Body fu p0).bind fun x1 =>
  bif x1 == (11 : Int) then
    (F_basic_Fault (11 : Int) (-5 : Int)).bind fun x2 =>
    some x2
  else
    bif x1 == (1 : Int) then
      (F_basic_Fault (1 : Int) (-6 : Int)).bind fun x3 =>
      some x3
    else
      (F_basic_None).bind fun x4 =>
      some x4
/- posthouse/message.Validate -/
def F_message_Validate (fu : Nat) (p0 : (List ((List UInt8) × (List UInt8))) × (List UInt8)) : Option ((Int × Int)) :=
  (F_header_Validate fu p0.1).bind fun x1 =>
  (F_basic_Failed x1).bind fun x2 =>
  bif x2 then
    some x1
  else
    (F_message_write fu p0).bind fun x3 =>
    bif decide ((12000 : Int) < (List.length x3 : Int)) then
      (F_basic_Fault (1 : Int) (-4 : Int)).bind fun x4 =>
      some x4
    else
      (F_message_body fu p0.2).bind fun x5 =>
      some x5
/- posthouse/message.Read -/
abbrev R_message_Read : Type := ((List ((List UInt8) × (List UInt8))) × (List UInt8)) × (Int × Int)
def F_message_Read (fu : Nat) (p0 : List UInt8) : Option R_message_Read :=
  (F_header_Read fu p0).bind fun x1 =>
  (F_basic_Failed x1.2.1).bind fun x2 =>
  bif x2 then
    some (([], []), x1.2.1)
  else
    bif decide (0 ≤ x1.1 ∧ x1.1 ≤ (List.length p0 : Int)) then
    (F_message_lines fu (List.drop x1.1.toNat p0)).bind fun x3 =>
    (F_message_Validate fu (x1.2.2, x3)).bind fun x4 =>
    (F_basic_Failed x4).bind fun x5 =>
    bif x5 then
      some (([], []), x4)
    else
      (F_basic_None).bind fun x6 =>
      some ((x1.2.2, x3), x6)
    else none
/- posthouse/message.Write -/
def F_message_Write (fu : Nat) (p0 : (List ((List UInt8) × (List UInt8))) × (List UInt8)) : Option ((Int × Int) × (List UInt8)) :=
  (F_message_Validate fu p0).bind fun x1 =>
  (F_basic_Failed x1).bind fun x2 =>
  bif x2 then
    some (x1, [])
  else
    (F_message_write fu p0).bind fun x3 =>
    (F_basic_None).bind fun x4 =>
    some (x4, x3)
/- posthouse/header.valid -/
def F_header_valid (fu : Nat) (p0 : List ((List UInt8) × (List UInt8))) (p1 : List UInt8) : Option ((Int × Int)) :=
  (F_header_Validate fu p0).bind fun x1 =>
  (F_basic_Failed x1).bind fun x2 =>
  bif x2 then
    some x1
  else
    (F_header_name fu p1).bind fun x3 =>
    bif !x3 then
      (F_basic_Fault (10 : Int) (-3 : Int)).bind fun x4 =>
      some x4
    else
      (F_basic_None).bind fun x5 =>
      some x5
/- posthouse/basic.Lower -/
def F_basic_Lower_b0 (fu : Nat) (r0 : Int → Int → (List UInt8) → Option ((List UInt8))) (s9 : Int) (s10 : Int) (m16 : List UInt8) : Option ((List UInt8)) :=
  bif decide (s10 < s9) then
    bif decide (0 ≤ s10 ∧ s10.toNat < List.length m16) then
    (m16[s10.toNat]?).bind fun y1 =>
    bif decide ((65 : UInt8) ≤ y1) then
      bif decide (y1 ≤ (90 : UInt8)) then
        bif decide (0 ≤ s10 ∧ s10.toNat < List.length m16) then
        (m16[s10.toNat]?).bind fun y2 =>
        r0 s9 (w64 (s10 + (1 : Int))) (List.set m16 s10.toNat ((y1 + (97 : UInt8)) - (65 : UInt8)))
        else none
      else
        r0 s9 (w64 (s10 + (1 : Int))) m16
    else
      r0 s9 (w64 (s10 + (1 : Int))) m16
    else none
  else
    some m16
def F_basic_Lower_p0 (fu : Nat) : Nat → Int → Int → (List UInt8) → Option ((List UInt8))
  | 0, _, _, _ => none
  | n + 1, s9, s10, m16 => F_basic_Lower_b0 fu (F_basic_Lower_p0 fu n) s9 s10 m16
def F_basic_Lower (fu : Nat) (p0 : List UInt8) : Option ((List UInt8)) :=
  bif decide (List.length p0 ≤ maxLen) then
  F_basic_Lower_p0 fu fu (List.length p0 : Int) (0 : Int) p0
  else none
/- posthouse/basic.Same -/
def F_basic_Same (fu : Nat) (p0 : List UInt8) (p1 : List UInt8) : Option Bool :=
  bif (List.length p0 : Int) == (List.length p1 : Int) then
    (F_basic_Lower fu p0).bind fun x1 =>
    (F_basic_Lower fu p1).bind fun x2 =>
    some (x1 == x2)
  else
    some false
/- posthouse/header.Get -/
def F_header_Get_b0 (fu : Nat) (r0 : (List UInt8) → (List ((List UInt8) × (List UInt8))) → Int → Int → (Int × Int) → (List (List UInt8)) → Option ((Int × Int) × (List (List UInt8)))) (s1 : List UInt8) (s16 : List ((List UInt8) × (List UInt8))) (s17 : Int) (s18 : Int) (m16 : Int × Int) (m17 : List (List UInt8)) : Option ((Int × Int) × (List (List UInt8))) :=
  bif decide (s18 < s17) then
    (idx s16 s18).bind fun y1 =>
    (F_basic_Same fu y1.1 s1).bind fun x2 =>
    bif x2 then
      bif decide (List.length (m17 ++ ([y1.2] : List (List UInt8))) ≤ rowMax) then
      r0 s1 s16 s17 (w64 (s18 + (1 : Int))) m16 (m17 ++ ([y1.2] : List (List UInt8)))
      else none
    else
      r0 s1 s16 s17 (w64 (s18 + (1 : Int))) m16 m17
  else
    (F_basic_None).bind fun x3 =>
    some (x3, m17)
def F_header_Get_p0 (fu : Nat) : Nat → (List UInt8) → (List ((List UInt8) × (List UInt8))) → Int → Int → (Int × Int) → (List (List UInt8)) → Option ((Int × Int) × (List (List UInt8)))
  | 0, _, _, _, _, _, _ => none
  | n + 1, s1, s16, s17, s18, m16, m17 => F_header_Get_b0 fu (F_header_Get_p0 fu n) s1 s16 s17 s18 m16 m17
def F_header_Get (fu : Nat) (p0 : List ((List UInt8) × (List UInt8))) (p1 : List UInt8) : Option ((Int × Int) × (List (List UInt8))) :=
  (F_header_valid fu p0 p1).bind fun x1 =>
  (F_basic_Failed x1).bind fun x2 =>
  bif x2 then
    some (x1, [])
  else
    F_header_Get_p0 fu fu p1 p0 (List.length p0 : Int) (0 : Int) ((0 : Int), (0 : Int)) []
/- internal/stringslite.HasPrefix -/
def F_internal_stringslite_HasPrefix (p0 : List UInt8) (p1 : List UInt8) : Option Bool :=
  bif decide ((List.length p1 : Int) ≤ (List.length p0 : Int)) then
    bif decide (0 ≤ (List.length p1 : Int) ∧ (List.length p1 : Int) ≤ (List.length p0 : Int)) then
    some ((List.take (List.length p1 : Int).toNat p0) == p1)
    else none
  else
    some false
/- internal/stringslite.CutPrefix -/
def F_internal_stringslite_CutPrefix (p0 : List UInt8) (p1 : List UInt8) : Option ((List UInt8) × Bool) :=
  (F_internal_stringslite_HasPrefix p0 p1).bind fun x1 =>
  bif !x1 then
    some (p0, false)
  else
    bif decide (0 ≤ (List.length p1 : Int) ∧ (List.length p1 : Int) ≤ (List.length p0 : Int)) then
    some (List.drop (List.length p1 : Int).toNat p0, true)
    else none
/- strings.CutPrefix -/
def F_strings_CutPrefix (p0 : List UInt8) (p1 : List UInt8) : Option ((List UInt8) × Bool) :=
  (F_internal_stringslite_CutPrefix p0 p1).bind fun x1 =>
  some x1
/- internal/stringslite.HasSuffix -/
def F_internal_stringslite_HasSuffix (p0 : List UInt8) (p1 : List UInt8) : Option Bool :=
  bif decide ((List.length p1 : Int) ≤ (List.length p0 : Int)) then
    bif decide (0 ≤ w64 ((List.length p0 : Int) - (List.length p1 : Int)) ∧ w64 ((List.length p0 : Int) - (List.length p1 : Int)) ≤ (List.length p0 : Int)) then
    some ((List.drop (w64 ((List.length p0 : Int) - (List.length p1 : Int))).toNat p0) == p1)
    else none
  else
    some false
/- internal/stringslite.CutSuffix -/
def F_internal_stringslite_CutSuffix (p0 : List UInt8) (p1 : List UInt8) : Option ((List UInt8) × Bool) :=
  (F_internal_stringslite_HasSuffix p0 p1).bind fun x1 =>
  bif !x1 then
    some (p0, false)
  else
    bif decide (0 ≤ w64 ((List.length p0 : Int) - (List.length p1 : Int)) ∧ w64 ((List.length p0 : Int) - (List.length p1 : Int)) ≤ (List.length p0 : Int)) then
    some (List.take (w64 ((List.length p0 : Int) - (List.length p1 : Int))).toNat p0, true)
    else none
/- strings.CutSuffix -/
def F_strings_CutSuffix (p0 : List UInt8) (p1 : List UInt8) : Option ((List UInt8) × Bool) :=
  (F_internal_stringslite_CutSuffix p0 p1).bind fun x1 =>
  some x1
/- posthouse/message.Id -/
def F_message_Id (fu : Nat) (p0 : (List ((List UInt8) × (List UInt8))) × (List UInt8)) : Option ((List UInt8) × Bool × (Int × Int)) :=
  (F_message_Validate fu p0).bind fun x1 =>
  (F_basic_Failed x1).bind fun x2 =>
  bif x2 then
    some (([] : List UInt8), (false, x1))
  else
    (F_header_Get fu p0.1 ([77, 101, 115, 115, 97, 103, 101, 45, 73, 100] : List UInt8)).bind fun x3 =>
    bif (List.length x3.2 : Int) == (0 : Int) then
      (F_basic_None).bind fun x4 =>
      some (([] : List UInt8), (false, x4))
    else
      bif decide (0 ≤ (0 : Int) ∧ (0 : Int).toNat < List.length x3.2) then
      (x3.2[(0 : Int).toNat]?).bind fun y5 =>
      (F_strings_CutPrefix y5 ([60] : List UInt8)).bind fun x6 =>
      (F_strings_CutSuffix x6.1 ([62] : List UInt8)).bind fun x7 =>
      bif !x6.2 then
        (F_basic_None).bind fun x8 =>
        some (([] : List UInt8), (false, x8))
      else
        bif !x7.2 then
          (F_basic_None).bind fun x9 =>
          some (([] : List UInt8), (false, x9))
        else
          bif x7.1 == ([] : List UInt8) then
            (F_basic_None).bind fun x10 =>
            some (([] : List UInt8), (false, x10))
          else
            (F_strings_ContainsAny fu x7.1 ([60, 62, 32, 9] : List UInt8)).bind fun x11 =>
            bif x11 then
              (F_basic_None).bind fun x12 =>
              some (([] : List UInt8), (false, x12))
            else
              (F_basic_None).bind fun x13 =>
              some (x7.1, (true, x13))
      else none
/- posthouse/message.Trace -/
def F_message_Trace_b0 (fu : Nat) (r0 : Int → (List ((List UInt8) × (List UInt8))) → Int → Int → Option Int) (s3 : Int) (s7 : List ((List UInt8) × (List UInt8))) (s8 : Int) (s9 : Int) : Option Int :=
  bif decide (s9 < s8) then
    (idx s7 s9).bind fun y1 =>
    (F_basic_Same fu y1.1 ([82, 101, 99, 101, 105, 118, 101, 100] : List UInt8)).bind fun x2 =>
    bif x2 then
      r0 (w64 (s3 + (1 : Int))) s7 s8 (w64 (s9 + (1 : Int)))
    else
      r0 s3 s7 s8 (w64 (s9 + (1 : Int)))
  else
    some s3
def F_message_Trace_p0 (fu : Nat) : Nat → Int → (List ((List UInt8) × (List UInt8))) → Int → Int → Option Int
  | 0, _, _, _, _ => none
  | n + 1, s3, s7, s8, s9 => F_message_Trace_b0 fu (F_message_Trace_p0 fu n) s3 s7 s8 s9
def F_message_Trace (fu : Nat) (p0 : (List ((List UInt8) × (List UInt8))) × (List UInt8)) : Option Int :=
  F_message_Trace_p0 fu fu (0 : Int) p0.1 (List.length p0.1 : Int) (0 : Int)
/- posthouse/posthouselaw2.messageExample -/
def F_W2_messageExample (fu : Nat) : Option Bool :=
  bif decide (0 < List.length ([(65 : UInt8), (58 : UInt8), (32 : UInt8), (98 : UInt8), (10 : UInt8), (10 : UInt8), (99 : UInt8), (10 : UInt8)] : List UInt8)) then
  (F_message_Read fu ([(65 : UInt8), (58 : UInt8), (32 : UInt8), (98 : UInt8), (10 : UInt8), (10 : UInt8), (99 : UInt8), (10 : UInt8)] : List UInt8)).bind fun x1 =>
  (F_message_Write fu ([], [])).bind fun x2 =>
  (F_message_Id fu (([(([77, 101, 115, 115, 97, 103, 101, 45, 73, 100] : List UInt8), ([60, 97, 64, 98, 62] : List UInt8))] : List ((List UInt8) × (List UInt8))), [])).bind fun x3 =>
  bif x1.2.1 == (0 : Int) then
    bif x2.1.1 == (0 : Int) then
      bif x3.2.2.1 == (0 : Int) then
        bif x1.1.2 == ([99, 13, 10] : List UInt8) then
          bif (List.length x1.1.1 : Int) == (1 : Int) then
            bif x2.2 == ([13, 10] : List UInt8) then
              bif x3.2.1 then
                bif x3.1 == ([97, 64, 98] : List UInt8) then
                  (F_message_Trace fu x1.1).bind fun x4 =>
                  some (x4 == (0 : Int))
                else
                  some false
              else
                some false
            else
              some false
          else
            some false
        else
          some false
      else
        some false
    else
      some false
  else
    some false
  else none
/- posthouse/posthouseref1.At -/
def F_R1_At (p0 : Int) (p1 : Int) : Option ((Int × Int)) :=
  some (p0, p1)
/- posthouse/posthouseref1.Blank -/
def F_R1_Blank (p0 : UInt8) : Option Bool :=
  bif p0 == (32 : UInt8) then
    some true
  else
    some (p0 == (9 : UInt8))
/- posthouse/posthouseref1.Find -/
def F_R1_Find_b0 (fu : Nat) (r0 : (List UInt8) → (List UInt8) → Int → Option Int) (s0 : List UInt8) (s1 : List UInt8) (s7 : Int) : Option Int :=
  bif decide ((w64 (s7 + (List.length s1 : Int))) ≤ (List.length s0 : Int)) then
    bif decide (0 ≤ s7 ∧ s7 ≤ w64 (s7 + (List.length s1 : Int)) ∧ w64 (s7 + (List.length s1 : Int)) ≤ (List.length s0 : Int)) then
    bif (List.take ((w64 (s7 + (List.length s1 : Int))).toNat - s7.toNat) (List.drop s7.toNat s0)) == s1 then
      some s7
    else
      r0 s0 s1 (w64 (s7 + (1 : Int)))
    else none
  else
    some (-1 : Int)
def F_R1_Find_p0 (fu : Nat) : Nat → (List UInt8) → (List UInt8) → Int → Option Int
  | 0, _, _, _ => none
  | n + 1, s0, s1, s7 => F_R1_Find_b0 fu (F_R1_Find_p0 fu n) s0 s1 s7
def F_R1_Find (fu : Nat) (p0 : List UInt8) (p1 : List UInt8) (p2 : Int) : Option Int :=
  F_R1_Find_p0 fu fu p0 p1 p2
/- posthouse/posthouseref1.In -/
def F_R1_In (p0 : Int) (p1 : Int) (p2 : Int) : Option Bool :=
  bif decide (p1 ≤ p0) then
    some (decide (p0 ≤ p2))
  else
    some false
/- posthouse/posthouseref1.FieldName -/
def F_R1_FieldName_b0 (fu : Nat) (r0 : (List UInt8) → Int → Option Bool) (s0 : List UInt8) (s3 : Int) : Option Bool :=
  bif decide (s3 < (List.length s0 : Int)) then
    (idx s0 s3).bind fun c1 =>
    (F_R1_In (c1.toNat : Int) (33 : Int) (126 : Int)).bind fun x2 =>
    bif !x2 then
      some false
    else
      (idx s0 s3).bind fun c3 =>
      bif c3 == (58 : UInt8) then
        some false
      else
        r0 s0 (w64 (s3 + (1 : Int)))
  else
    (F_R1_In (List.length s0 : Int) (1 : Int) (60 : Int)).bind fun x4 =>
    some x4
def F_R1_FieldName_p0 (fu : Nat) : Nat → (List UInt8) → Int → Option Bool
  | 0, _, _ => none
  | n + 1, s0, s3 => F_R1_FieldName_b0 fu (F_R1_FieldName_p0 fu n) s0 s3
def F_R1_FieldName (fu : Nat) (p0 : List UInt8) : Option Bool :=
  F_R1_FieldName_p0 fu fu p0 (0 : Int)
/- posthouse/posthouseref1.Trim -/
def F_R1_Trim_p2 (fu : Nat) (r0 : (List UInt8) → Option ((List UInt8))) (s0 : List UInt8) : Option ((List UInt8)) :=
  bif decide (0 ≤ (1 : Int) ∧ (1 : Int) ≤ (List.length s0 : Int)) then
  r0 (List.drop (1 : Int).toNat s0)
  else none
def F_R1_Trim_b3 (fu : Nat) (r3 : (List UInt8) → Option ((List UInt8))) (s0 : List UInt8) : Option ((List UInt8)) :=
  bif decide ((0 : Int) < (List.length s0 : Int)) then
    (idx s0 (w64 ((List.length s0 : Int) - (1 : Int)))).bind fun c1 =>
    (F_R1_Blank c1).bind fun x2 =>
    bif x2 then
      bif decide (0 ≤ w64 ((List.length s0 : Int) - (1 : Int)) ∧ w64 ((List.length s0 : Int) - (1 : Int)) ≤ (List.length s0 : Int)) then
      r3 (List.take (w64 ((List.length s0 : Int) - (1 : Int))).toNat s0)
      else none
    else
      some s0
  else
    some s0
def F_R1_Trim_p3 (fu : Nat) : Nat → (List UInt8) → Option ((List UInt8))
  | 0, _ => none
  | n + 1, s0 => F_R1_Trim_b3 fu (F_R1_Trim_p3 fu n) s0
def F_R1_Trim_p1 (fu : Nat) (r0 : (List UInt8) → Option ((List UInt8))) (s0 : List UInt8) (s10 : Bool) : Option ((List UInt8)) :=
  bif s10 then
    F_R1_Trim_p2 fu r0 s0
  else
    F_R1_Trim_p3 fu fu s0
def F_R1_Trim_b0 (fu : Nat) (r0 : (List UInt8) → Option ((List UInt8))) (s0 : List UInt8) : Option ((List UInt8)) :=
  bif decide ((0 : Int) < (List.length s0 : Int)) then
    (idx s0 (0 : Int)).bind fun c1 =>
    (F_R1_Blank c1).bind fun x2 =>
    F_R1_Trim_p1 fu r0 s0 x2
  else
    F_R1_Trim_p1 fu r0 s0 false
def F_R1_Trim_p0 (fu : Nat) : Nat → (List UInt8) → Option ((List UInt8))
  | 0, _ => none
  | n + 1, s0 => F_R1_Trim_b0 fu (F_R1_Trim_p0 fu n) s0
def F_R1_Trim (fu : Nat) (p0 : List UInt8) : Option ((List UInt8)) :=
  F_R1_Trim_p0 fu fu p0
/- posthouse/posthouseref1.ReadHeader -/
abbrev R_R1_ReadHeader : Type := Int × (Int × Int) × (List ((List UInt8) × (List UInt8)))
def F_R1_ReadHeader_p5 (fu : Nat) (r0 : (List UInt8) → Int → (Int × Int) → (List ((List UInt8) × (List UInt8))) → Option R_R1_ReadHeader) (r1 : (List UInt8) → Int → Int → (Int × Int) → (List ((List UInt8) × (List UInt8))) → Option R_R1_ReadHeader) (s0 : List UInt8) (s6 : Int) (s7 : Int) (m16 : Int × Int) (m17 : List ((List UInt8) × (List UInt8))) : Option R_R1_ReadHeader :=
  r1 s0 s6 (w64 (s7 + (1 : Int))) m16 m17
def F_R1_ReadHeader_p16 (fu : Nat) (r4 : Int → Int → (Int × Int) → (List ((List UInt8) × (List UInt8))) → Option R_R1_ReadHeader) (r14 : Int → Int → Int → (Int × Int) → (List ((List UInt8) × (List UInt8))) → (List UInt8) → Option R_R1_ReadHeader) (s6 : Int) (s13 : Int) (s15 : Int) (m16 : Int × Int) (m17 : List ((List UInt8) × (List UInt8))) (m18 : List UInt8) : Option R_R1_ReadHeader :=
  r14 s6 s13 (w64 (s15 + (1 : Int))) m16 m17 m18
def F_R1_ReadHeader_p15 (fu : Nat) (r4 : Int → Int → (Int × Int) → (List ((List UInt8) × (List UInt8))) → Option R_R1_ReadHeader) (r14 : Int → Int → Int → (Int × Int) → (List ((List UInt8) × (List UInt8))) → (List UInt8) → Option R_R1_ReadHeader) (s6 : Int) (s13 : Int) (s15 : Int) (s166 : Bool) (m16 : Int × Int) (m17 : List ((List UInt8) × (List UInt8))) (m18 : List UInt8) : Option R_R1_ReadHeader :=
  bif s166 then
    bif decide (0 ≤ s15 ∧ s15.toNat < List.length m18) then
    (m18[s15.toNat]?).bind fun y1 =>
    F_R1_ReadHeader_p16 fu r4 r14 s6 s13 s15 m16 m17 (List.set m18 s15.toNat (32 : UInt8))
    else none
  else
    F_R1_ReadHeader_p16 fu r4 r14 s6 s13 s15 m16 m17 m18
def F_R1_ReadHeader_b14 (fu : Nat) (r4 : Int → Int → (Int × Int) → (List ((List UInt8) × (List UInt8))) → Option R_R1_ReadHeader) (r14 : Int → Int → Int → (Int × Int) → (List ((List UInt8) × (List UInt8))) → (List UInt8) → Option R_R1_ReadHeader) (s6 : Int) (s13 : Int) (s15 : Int) (m16 : Int × Int) (m17 : List ((List UInt8) × (List UInt8))) (m18 : List UInt8) : Option R_R1_ReadHeader :=
  bif decide (s15 < (List.length m18 : Int)) then
    bif decide (0 ≤ s15 ∧ s15.toNat < List.length m18) then
    (m18[s15.toNat]?).bind fun y1 =>
    bif y1 == (0 : UInt8) then
      F_R1_ReadHeader_p15 fu r4 r14 s6 s13 s15 true m16 m17 m18
    else
      bif decide (0 ≤ s15 ∧ s15.toNat < List.length m18) then
      (m18[s15.toNat]?).bind fun y2 =>
      F_R1_ReadHeader_p15 fu r4 r14 s6 s13 s15 (y2 == (13 : UInt8)) m16 m17 m18
      else none
    else none
  else
    (F_R1_Trim fu m18).bind fun x3 =>
    bif decide (0 ≤ s13 ∧ s13.toNat < List.length m17) then
    (m17[s13.toNat]?).bind fun y4 =>
    bif decide (0 ≤ s13 ∧ s13.toNat < List.length (List.set m17 s13.toNat (y4.1, x3))) then
    ((List.set m17 s13.toNat (y4.1, x3))[s13.toNat]?).bind fun y5 =>
    bif decide ((4000 : Int) < (List.length y5.2 : Int)) then
      (F_R1_At (1 : Int) s13).bind fun x6 =>
      some ((0 : Int), (x6, []))
    else
      r4 s6 (w64 (s13 + (1 : Int))) m16 (List.set m17 s13.toNat (y4.1, x3))
    else none
    else none
def F_R1_ReadHeader_p14 (fu : Nat) (r4 : Int → Int → (Int × Int) → (List ((List UInt8) × (List UInt8))) → Option R_R1_ReadHeader) : Nat → Int → Int → Int → (Int × Int) → (List ((List UInt8) × (List UInt8))) → (List UInt8) → Option R_R1_ReadHeader
  | 0, _, _, _, _, _, _ => none
  | n + 1, s6, s13, s15, m16, m17, m18 => F_R1_ReadHeader_b14 fu r4 (F_R1_ReadHeader_p14 fu r4 n) s6 s13 s15 m16 m17 m18
def F_R1_ReadHeader_b4 (fu : Nat) (r4 : Int → Int → (Int × Int) → (List ((List UInt8) × (List UInt8))) → Option R_R1_ReadHeader) (s6 : Int) (s13 : Int) (m16 : Int × Int) (m17 : List ((List UInt8) × (List UInt8))) : Option R_R1_ReadHeader :=
  bif decide (s13 < (List.length m17 : Int)) then
    bif decide (0 ≤ s13 ∧ s13.toNat < List.length m17) then
    (m17[s13.toNat]?).bind fun y1 =>
    bif decide (List.length y1.2 ≤ maxLen) then
    F_R1_ReadHeader_p14 fu r4 fu s6 s13 (0 : Int) m16 m17 y1.2
    else none
    else none
  else
    some (s6, (((0 : Int), (0 : Int)), m17))
def F_R1_ReadHeader_p4 (fu : Nat) : Nat → Int → Int → (Int × Int) → (List ((List UInt8) × (List UInt8))) → Option R_R1_ReadHeader
  | 0, _, _, _, _ => none
  | n + 1, s6, s13, m16, m17 => F_R1_ReadHeader_b4 fu (F_R1_ReadHeader_p4 fu n) s6 s13 m16 m17
def F_R1_ReadHeader_p2 (fu : Nat) (s6 : Int) (m16 : Int × Int) (m17 : List ((List UInt8) × (List UInt8))) : Option R_R1_ReadHeader :=
  bif decide ((60 : Int) < (List.length m17 : Int)) then
    (F_R1_At (2 : Int) (-2 : Int)).bind fun x1 =>
    some ((0 : Int), (x1, []))
  else
    F_R1_ReadHeader_p4 fu fu s6 (0 : Int) m16 m17
def F_R1_ReadHeader_p13 (fu : Nat) (r0 : (List UInt8) → Int → (Int × Int) → (List ((List UInt8) × (List UInt8))) → Option R_R1_ReadHeader) (r11 : (List UInt8) → Int → Int → (List UInt8) → Int → (List UInt8) → (Int × Int) → (List ((List UInt8) × (List UInt8))) → Option R_R1_ReadHeader) (s0 : List UInt8) (s6 : Int) (s9 : Int) (s10 : List UInt8) (s11 : Int) (s12 : List UInt8) (m16 : Int × Int) (m17 : List ((List UInt8) × (List UInt8))) : Option R_R1_ReadHeader :=
  bif decide (0 ≤ w64 ((List.length s12 : Int) - (1 : Int)) ∧ w64 ((List.length s12 : Int) - (1 : Int)) ≤ (List.length s12 : Int)) then
  r11 s0 s6 s9 s10 s11 (List.take (w64 ((List.length s12 : Int) - (1 : Int))).toNat s12) m16 m17
  else none
def F_R1_ReadHeader_p12 (fu : Nat) (r0 : (List UInt8) → Int → (Int × Int) → (List ((List UInt8) × (List UInt8))) → Option R_R1_ReadHeader) (r11 : (List UInt8) → Int → Int → (List UInt8) → Int → (List UInt8) → (Int × Int) → (List ((List UInt8) × (List UInt8))) → Option R_R1_ReadHeader) (s0 : List UInt8) (s6 : Int) (s9 : Int) (s10 : List UInt8) (s11 : Int) (s12 : List UInt8) (s114 : Bool) (m16 : Int × Int) (m17 : List ((List UInt8) × (List UInt8))) : Option R_R1_ReadHeader :=
  bif s114 then
    F_R1_ReadHeader_p13 fu r0 r11 s0 s6 s9 s10 s11 s12 m16 m17
  else
    (F_R1_FieldName fu s12).bind fun x1 =>
    bif !x1 then
      F_R1_ReadHeader_p2 fu s6 m16 m17
    else
      bif decide (0 ≤ w64 (s11 + (1 : Int)) ∧ w64 (s11 + (1 : Int)) ≤ (List.length s10 : Int)) then
      bif decide (List.length (m17 ++ ([(s12, List.drop (w64 (s11 + (1 : Int))).toNat s10)] : List ((List UInt8) × (List UInt8)))) ≤ rowMax) then
      r0 s0 s9 m16 (m17 ++ ([(s12, List.drop (w64 (s11 + (1 : Int))).toNat s10)] : List ((List UInt8) × (List UInt8))))
      else none
      else none
def F_R1_ReadHeader_b11 (fu : Nat) (r0 : (List UInt8) → Int → (Int × Int) → (List ((List UInt8) × (List UInt8))) → Option R_R1_ReadHeader) (r11 : (List UInt8) → Int → Int → (List UInt8) → Int → (List UInt8) → (Int × Int) → (List ((List UInt8) × (List UInt8))) → Option R_R1_ReadHeader) (s0 : List UInt8) (s6 : Int) (s9 : Int) (s10 : List UInt8) (s11 : Int) (s12 : List UInt8) (m16 : Int × Int) (m17 : List ((List UInt8) × (List UInt8))) : Option R_R1_ReadHeader :=
  bif decide ((0 : Int) < (List.length s12 : Int)) then
    (idx s12 (w64 ((List.length s12 : Int) - (1 : Int)))).bind fun c1 =>
    (F_R1_Blank c1).bind fun x2 =>
    F_R1_ReadHeader_p12 fu r0 r11 s0 s6 s9 s10 s11 s12 x2 m16 m17
  else
    F_R1_ReadHeader_p12 fu r0 r11 s0 s6 s9 s10 s11 s12 false m16 m17
def F_R1_ReadHeader_p11 (fu : Nat) (r0 : (List UInt8) → Int → (Int × Int) → (List ((List UInt8) × (List UInt8))) → Option R_R1_ReadHeader) : Nat → (List UInt8) → Int → Int → (List UInt8) → Int → (List UInt8) → (Int × Int) → (List ((List UInt8) × (List UInt8))) → Option R_R1_ReadHeader
  | 0, _, _, _, _, _, _, _, _ => none
  | n + 1, s0, s6, s9, s10, s11, s12, m16, m17 => F_R1_ReadHeader_b11 fu r0 (F_R1_ReadHeader_p11 fu r0 n) s0 s6 s9 s10 s11 s12 m16 m17
def F_R1_ReadHeader_p10 (fu : Nat) (r0 : (List UInt8) → Int → (Int × Int) → (List ((List UInt8) × (List UInt8))) → Option R_R1_ReadHeader) (s0 : List UInt8) (s6 : Int) (s9 : Int) (s10 : List UInt8) (m16 : Int × Int) (m17 : List ((List UInt8) × (List UInt8))) : Option R_R1_ReadHeader :=
  (F_R1_Find fu s10 ([58] : List UInt8) (0 : Int)).bind fun x1 =>
  bif decide (x1 < (0 : Int)) then
    F_R1_ReadHeader_p2 fu s6 m16 m17
  else
    bif decide (0 ≤ x1 ∧ x1 ≤ (List.length s10 : Int)) then
    F_R1_ReadHeader_p11 fu r0 fu s0 s6 s9 s10 x1 (List.take x1.toNat s10) m16 m17
    else none
def F_R1_ReadHeader_p9 (fu : Nat) (r0 : (List UInt8) → Int → (Int × Int) → (List ((List UInt8) × (List UInt8))) → Option R_R1_ReadHeader) (s0 : List UInt8) (s6 : Int) (s9 : Int) (s10 : List UInt8) (s80 : Bool) (m16 : Int × Int) (m17 : List ((List UInt8) × (List UInt8))) : Option R_R1_ReadHeader :=
  bif s80 then
    bif decide (0 ≤ w64 ((List.length m17 : Int) - (1 : Int)) ∧ (w64 ((List.length m17 : Int) - (1 : Int))).toNat < List.length m17) then
    (m17[(w64 ((List.length m17 : Int) - (1 : Int))).toNat]?).bind fun y1 =>
    bif decide (List.length y1.2 + List.length s10 ≤ strMax) then
    bif decide (0 ≤ w64 ((List.length m17 : Int) - (1 : Int)) ∧ (w64 ((List.length m17 : Int) - (1 : Int))).toNat < List.length m17) then
    (m17[(w64 ((List.length m17 : Int) - (1 : Int))).toNat]?).bind fun y2 =>
    r0 s0 s9 m16 (List.set m17 ((w64 ((List.length m17 : Int) - (1 : Int))).toNat) (y2.1, y1.2 ++ s10))
    else none
    else none
    else none
  else
    F_R1_ReadHeader_p10 fu r0 s0 s6 s9 s10 m16 m17
def F_R1_ReadHeader_p8 (fu : Nat) (r0 : (List UInt8) → Int → (Int × Int) → (List ((List UInt8) × (List UInt8))) → Option R_R1_ReadHeader) (s0 : List UInt8) (s6 : Int) (s8 : Int) (s9 : Int) (m16 : Int × Int) (m17 : List ((List UInt8) × (List UInt8))) : Option R_R1_ReadHeader :=
  bif decide (0 ≤ s6 ∧ s6 ≤ s8 ∧ s8 ≤ (List.length s0 : Int)) then
  bif (List.take (s8.toNat - s6.toNat) (List.drop s6.toNat s0)) == ([] : List UInt8) then
    F_R1_ReadHeader_p2 fu s9 m16 m17
  else
    bif decide ((0 : Int) < (List.length m17 : Int)) then
      (idx (List.take (s8.toNat - s6.toNat) (List.drop s6.toNat s0)) (0 : Int)).bind fun c1 =>
      (F_R1_Blank c1).bind fun x2 =>
      F_R1_ReadHeader_p9 fu r0 s0 s6 s9 (List.take (s8.toNat - s6.toNat) (List.drop s6.toNat s0)) x2 m16 m17
    else
      F_R1_ReadHeader_p9 fu r0 s0 s6 s9 (List.take (s8.toNat - s6.toNat) (List.drop s6.toNat s0)) false m16 m17
  else none
def F_R1_ReadHeader_p7 (fu : Nat) (r0 : (List UInt8) → Int → (Int × Int) → (List ((List UInt8) × (List UInt8))) → Option R_R1_ReadHeader) (s0 : List UInt8) (s6 : Int) (s7 : Int) (s8 : Int) (m16 : Int × Int) (m17 : List ((List UInt8) × (List UInt8))) : Option R_R1_ReadHeader :=
  bif s7 == (List.length s0 : Int) then
    F_R1_ReadHeader_p8 fu r0 s0 s6 s8 s7 m16 m17
  else
    F_R1_ReadHeader_p8 fu r0 s0 s6 s8 (w64 (s7 + (1 : Int))) m16 m17
def F_R1_ReadHeader_p6 (fu : Nat) (r0 : (List UInt8) → Int → (Int × Int) → (List ((List UInt8) × (List UInt8))) → Option R_R1_ReadHeader) (s0 : List UInt8) (s6 : Int) (s7 : Int) (s8 : Int) (s55 : Bool) (m16 : Int × Int) (m17 : List ((List UInt8) × (List UInt8))) : Option R_R1_ReadHeader :=
  bif s55 then
    F_R1_ReadHeader_p7 fu r0 s0 s6 s7 (w64 (s8 - (1 : Int))) m16 m17
  else
    F_R1_ReadHeader_p7 fu r0 s0 s6 s7 s8 m16 m17
def F_R1_ReadHeader_p3 (fu : Nat) (r0 : (List UInt8) → Int → (Int × Int) → (List ((List UInt8) × (List UInt8))) → Option R_R1_ReadHeader) (r1 : (List UInt8) → Int → Int → (Int × Int) → (List ((List UInt8) × (List UInt8))) → Option R_R1_ReadHeader) (s0 : List UInt8) (s6 : Int) (s7 : Int) (s35 : Bool) (m16 : Int × Int) (m17 : List ((List UInt8) × (List UInt8))) : Option R_R1_ReadHeader :=
  bif s35 then
    F_R1_ReadHeader_p5 fu r0 r1 s0 s6 s7 m16 m17
  else
    bif decide (s7 < (List.length s0 : Int)) then
      bif decide (s6 < s7) then
        (idx s0 (w64 (s7 - (1 : Int)))).bind fun y1 =>
        F_R1_ReadHeader_p6 fu r0 s0 s6 s7 s7 (y1 == (13 : UInt8)) m16 m17
      else
        F_R1_ReadHeader_p6 fu r0 s0 s6 s7 s7 false m16 m17
    else
      F_R1_ReadHeader_p6 fu r0 s0 s6 s7 s7 false m16 m17
def F_R1_ReadHeader_b1 (fu : Nat) (r0 : (List UInt8) → Int → (Int × Int) → (List ((List UInt8) × (List UInt8))) → Option R_R1_ReadHeader) (r1 : (List UInt8) → Int → Int → (Int × Int) → (List ((List UInt8) × (List UInt8))) → Option R_R1_ReadHeader) (s0 : List UInt8) (s6 : Int) (s7 : Int) (m16 : Int × Int) (m17 : List ((List UInt8) × (List UInt8))) : Option R_R1_ReadHeader :=
  bif decide (s7 < (List.length s0 : Int)) then
    (idx s0 s7).bind fun y1 =>
    F_R1_ReadHeader_p3 fu r0 r1 s0 s6 s7 (y1 != (10 : UInt8)) m16 m17
  else
    F_R1_ReadHeader_p3 fu r0 r1 s0 s6 s7 false m16 m17
def F_R1_ReadHeader_p1 (fu : Nat) (r0 : (List UInt8) → Int → (Int × Int) → (List ((List UInt8) × (List UInt8))) → Option R_R1_ReadHeader) : Nat → (List UInt8) → Int → Int → (Int × Int) → (List ((List UInt8) × (List UInt8))) → Option R_R1_ReadHeader
  | 0, _, _, _, _, _ => none
  | n + 1, s0, s6, s7, m16, m17 => F_R1_ReadHeader_b1 fu r0 (F_R1_ReadHeader_p1 fu r0 n) s0 s6 s7 m16 m17
def F_R1_ReadHeader_b0 (fu : Nat) (r0 : (List UInt8) → Int → (Int × Int) → (List ((List UInt8) × (List UInt8))) → Option R_R1_ReadHeader) (s0 : List UInt8) (s6 : Int) (m16 : Int × Int) (m17 : List ((List UInt8) × (List UInt8))) : Option R_R1_ReadHeader :=
  bif decide (s6 < (List.length s0 : Int)) then
    F_R1_ReadHeader_p1 fu r0 fu s0 s6 s6 m16 m17
  else
    F_R1_ReadHeader_p2 fu s6 m16 m17
def F_R1_ReadHeader_p0 (fu : Nat) : Nat → (List UInt8) → Int → (Int × Int) → (List ((List UInt8) × (List UInt8))) → Option R_R1_ReadHeader
  | 0, _, _, _, _ => none
  | n + 1, s0, s6, m16, m17 => F_R1_ReadHeader_b0 fu (F_R1_ReadHeader_p0 fu n) s0 s6 m16 m17
def F_R1_ReadHeader (fu : Nat) (p0 : List UInt8) : Option R_R1_ReadHeader :=
  bif decide ((12000 : Int) < (List.length p0 : Int)) then
    (F_R1_At (1 : Int) (-1 : Int)).bind fun x1 =>
    some ((0 : Int), (x1, []))
  else
    F_R1_ReadHeader_p0 fu fu p0 (0 : Int) ((0 : Int), (0 : Int)) []
/- posthouse/posthouseref1.Crlf -/
def F_R1_Crlf (p0 : List UInt8) (p1 : Int) : Option Bool :=
  bif decide ((w64 (p1 + (1 : Int))) < (List.length p0 : Int)) then
    (idx p0 p1).bind fun y1 =>
    bif y1 == (13 : UInt8) then
      (idx p0 (w64 (p1 + (1 : Int)))).bind fun y2 =>
      some (y2 == (10 : UInt8))
    else
      some false
  else
    some false
/- posthouse/posthouseref2.EndsOf -/
def F_R2_EndsOf_p1 (fu : Nat) (r0 : (List UInt8) → Int → (List UInt8) → Option ((List UInt8))) (s0 : List UInt8) (s4 : Int) (s22 : Bool) (m16 : List UInt8) : Option ((List UInt8)) :=
  bif s22 then
    bif decide (List.length (m16 ++ ([(13 : UInt8), (10 : UInt8)] : List UInt8)) ≤ rowMax) then
    (F_R1_Crlf s0 s4).bind fun x1 =>
    bif x1 then
      r0 s0 (w64 ((w64 (s4 + (1 : Int))) + (1 : Int))) (m16 ++ ([(13 : UInt8), (10 : UInt8)] : List UInt8))
    else
      r0 s0 (w64 (s4 + (1 : Int))) (m16 ++ ([(13 : UInt8), (10 : UInt8)] : List UInt8))
    else none
  else
    (idx s0 s4).bind fun y2 =>
    bif decide (List.length (m16 ++ ([y2] : List UInt8)) ≤ rowMax) then
    r0 s0 (w64 (s4 + (1 : Int))) (m16 ++ ([y2] : List UInt8))
    else none
def F_R2_EndsOf_b0 (fu : Nat) (r0 : (List UInt8) → Int → (List UInt8) → Option ((List UInt8))) (s0 : List UInt8) (s4 : Int) (m16 : List UInt8) : Option ((List UInt8)) :=
  bif decide (s4 < (List.length s0 : Int)) then
    (idx s0 s4).bind fun y1 =>
    bif y1 == (13 : UInt8) then
      F_R2_EndsOf_p1 fu r0 s0 s4 true m16
    else
      (idx s0 s4).bind fun y2 =>
      F_R2_EndsOf_p1 fu r0 s0 s4 (y2 == (10 : UInt8)) m16
  else
    some m16
def F_R2_EndsOf_p0 (fu : Nat) : Nat → (List UInt8) → Int → (List UInt8) → Option ((List UInt8))
  | 0, _, _, _ => none
  | n + 1, s0, s4, m16 => F_R2_EndsOf_b0 fu (F_R2_EndsOf_p0 fu n) s0 s4 m16
def F_R2_EndsOf (fu : Nat) (p0 : List UInt8) : Option ((List UInt8)) :=
  F_R2_EndsOf_p0 fu fu p0 (0 : Int) []
/- posthouse/posthouseref1.OneOf -/
def F_R1_OneOf_b0 (fu : Nat) (r0 : UInt8 → (List UInt8) → Int → Option Bool) (s0 : UInt8) (s1 : List UInt8) (s5 : Int) : Option Bool :=
  bif decide (s5 < (List.length s1 : Int)) then
    (idx s1 s5).bind fun c1 =>
    bif c1 == s0 then
      some true
    else
      r0 s0 s1 (w64 (s5 + (1 : Int)))
  else
    some false
def F_R1_OneOf_p0 (fu : Nat) : Nat → UInt8 → (List UInt8) → Int → Option Bool
  | 0, _, _, _ => none
  | n + 1, s0, s1, s5 => F_R1_OneOf_b0 fu (F_R1_OneOf_p0 fu n) s0 s1 s5
def F_R1_OneOf (fu : Nat) (p0 : UInt8) (p1 : List UInt8) : Option Bool :=
  F_R1_OneOf_p0 fu fu p0 p1 (0 : Int)
/- posthouse/posthouseref1.FieldCode -/
def F_R1_FieldCode_b0 (fu : Nat) (r0 : (List UInt8) → Int → Option Int) (s1 : List UInt8) (s5 : Int) : Option Int :=
  bif decide (s5 < (List.length s1 : Int)) then
    (idx s1 s5).bind fun c1 =>
    (F_R1_OneOf fu c1 ([13, 10, 0] : List UInt8)).bind fun x2 =>
    bif x2 then
      some (11 : Int)
    else
      r0 s1 (w64 (s5 + (1 : Int)))
  else
    (F_R1_Trim fu s1).bind fun x3 =>
    bif !(x3 == s1) then
      some (11 : Int)
    else
      some (0 : Int)
def F_R1_FieldCode_p0 (fu : Nat) : Nat → (List UInt8) → Int → Option Int
  | 0, _, _ => none
  | n + 1, s1, s5 => F_R1_FieldCode_b0 fu (F_R1_FieldCode_p0 fu n) s1 s5
def F_R1_FieldCode (fu : Nat) (p0 : List UInt8) (p1 : List UInt8) : Option Int :=
  (F_R1_FieldName fu p0).bind fun x1 =>
  bif !x1 then
    some (10 : Int)
  else
    bif decide ((4000 : Int) < (List.length p1 : Int)) then
      some (1 : Int)
    else
      F_R1_FieldCode_p0 fu fu p1 (0 : Int)
/- posthouse/posthouseref1.Folded -/
def F_R1_Folded_p3 (fu : Nat) (r0 : (List UInt8) → Int → (List Int) → Option ((List (List UInt8)))) (s5 : List UInt8) (s7 : Int) (m16 : List Int) : Option ((List (List UInt8))) :=
  r0 s5 (w64 (s7 + (1 : Int))) m16
def F_R1_Folded_p1 (fu : Nat) (r0 : (List UInt8) → Int → (List Int) → Option ((List (List UInt8)))) (s5 : List UInt8) (s7 : Int) (s37 : Bool) (m16 : List Int) : Option ((List (List UInt8))) :=
  bif s37 then
    bif decide (List.length (m16 ++ ([s7] : List Int)) ≤ rowMax) then
    F_R1_Folded_p3 fu r0 s5 s7 (m16 ++ ([s7] : List Int))
    else none
  else
    F_R1_Folded_p3 fu r0 s5 s7 m16
def F_R1_Folded_p6 (fu : Nat) (r2 : (List UInt8) → Int → (List Int) → (List (List UInt8)) → Option ((List (List UInt8)))) (r4 : (List UInt8) → Int → Int → Int → (List Int) → (List (List UInt8)) → Option ((List (List UInt8)))) (s5 : List UInt8) (s9 : Int) (s10 : Int) (s11 : Int) (m16 : List Int) (m17 : List (List UInt8)) : Option ((List (List UInt8))) :=
  r4 s5 s9 s10 (w64 (s11 + (1 : Int))) m16 m17
def F_R1_Folded_p5 (fu : Nat) (r2 : (List UInt8) → Int → (List Int) → (List (List UInt8)) → Option ((List (List UInt8)))) (r4 : (List UInt8) → Int → Int → Int → (List Int) → (List (List UInt8)) → Option ((List (List UInt8)))) (s5 : List UInt8) (s9 : Int) (s10 : Int) (s11 : Int) (s12 : Int) (s69 : Bool) (m16 : List Int) (m17 : List (List UInt8)) : Option ((List (List UInt8))) :=
  bif s69 then
    F_R1_Folded_p6 fu r2 r4 s5 s9 s12 s11 m16 m17
  else
    F_R1_Folded_p6 fu r2 r4 s5 s9 s10 s11 m16 m17
def F_R1_Folded_b4 (fu : Nat) (r2 : (List UInt8) → Int → (List Int) → (List (List UInt8)) → Option ((List (List UInt8)))) (r4 : (List UInt8) → Int → Int → Int → (List Int) → (List (List UInt8)) → Option ((List (List UInt8)))) (s5 : List UInt8) (s9 : Int) (s10 : Int) (s11 : Int) (m16 : List Int) (m17 : List (List UInt8)) : Option ((List (List UInt8))) :=
  bif decide (s11 < (List.length m16 : Int)) then
    bif decide (0 ≤ s11 ∧ s11.toNat < List.length m16) then
    (m16[s11.toNat]?).bind fun y1 =>
    bif decide (s9 < y1) then
      bif decide ((w64 (y1 - s9)) ≤ (78 : Int)) then
        F_R1_Folded_p5 fu r2 r4 s5 s9 s10 s11 y1 true m16 m17
      else
        F_R1_Folded_p5 fu r2 r4 s5 s9 s10 s11 y1 (decide (s10 < (0 : Int))) m16 m17
    else
      F_R1_Folded_p5 fu r2 r4 s5 s9 s10 s11 y1 false m16 m17
    else none
  else
    bif decide (s10 < (0 : Int)) then
      bif decide (0 ≤ s9 ∧ s9 ≤ (List.length s5 : Int)) then
      bif decide (List.length (m17 ++ ([List.drop s9.toNat s5] : List (List UInt8))) ≤ rowMax) then
      some (m17 ++ ([List.drop s9.toNat s5] : List (List UInt8)))
      else none
      else none
    else
      bif decide (0 ≤ s9 ∧ s9 ≤ s10 ∧ s10 ≤ (List.length s5 : Int)) then
      bif decide (List.length (m17 ++ ([List.take (s10.toNat - s9.toNat) (List.drop s9.toNat s5)] : List (List UInt8))) ≤ rowMax) then
      r2 s5 s10 m16 (m17 ++ ([List.take (s10.toNat - s9.toNat) (List.drop s9.toNat s5)] : List (List UInt8)))
      else none
      else none
def F_R1_Folded_p4 (fu : Nat) (r2 : (List UInt8) → Int → (List Int) → (List (List UInt8)) → Option ((List (List UInt8)))) : Nat → (List UInt8) → Int → Int → Int → (List Int) → (List (List UInt8)) → Option ((List (List UInt8)))
  | 0, _, _, _, _, _, _ => none
  | n + 1, s5, s9, s10, s11, m16, m17 => F_R1_Folded_b4 fu r2 (F_R1_Folded_p4 fu r2 n) s5 s9 s10 s11 m16 m17
def F_R1_Folded_b2 (fu : Nat) (r2 : (List UInt8) → Int → (List Int) → (List (List UInt8)) → Option ((List (List UInt8)))) (s5 : List UInt8) (s9 : Int) (m16 : List Int) (m17 : List (List UInt8)) : Option ((List (List UInt8))) :=
  bif decide ((78 : Int) < (w64 ((List.length s5 : Int) - s9))) then
    F_R1_Folded_p4 fu r2 fu s5 s9 (-1 : Int) (0 : Int) m16 m17
  else
    bif decide (0 ≤ s9 ∧ s9 ≤ (List.length s5 : Int)) then
    bif decide (List.length (m17 ++ ([List.drop s9.toNat s5] : List (List UInt8))) ≤ rowMax) then
    some (m17 ++ ([List.drop s9.toNat s5] : List (List UInt8)))
    else none
    else none
def F_R1_Folded_p2 (fu : Nat) : Nat → (List UInt8) → Int → (List Int) → (List (List UInt8)) → Option ((List (List UInt8)))
  | 0, _, _, _, _ => none
  | n + 1, s5, s9, m16, m17 => F_R1_Folded_b2 fu (F_R1_Folded_p2 fu n) s5 s9 m16 m17
def F_R1_Folded_b0 (fu : Nat) (r0 : (List UInt8) → Int → (List Int) → Option ((List (List UInt8)))) (s5 : List UInt8) (s7 : Int) (m16 : List Int) : Option ((List (List UInt8))) :=
  bif decide (s7 < (List.length s5 : Int)) then
    (idx s5 s7).bind fun c1 =>
    (F_R1_Blank c1).bind fun x2 =>
    bif x2 then
      (idx s5 (w64 (s7 - (1 : Int)))).bind fun c3 =>
      (F_R1_Blank c3).bind fun x4 =>
      F_R1_Folded_p1 fu r0 s5 s7 (!x4) m16
    else
      F_R1_Folded_p1 fu r0 s5 s7 false m16
  else
    F_R1_Folded_p2 fu fu s5 (0 : Int) m16 []
def F_R1_Folded_p0 (fu : Nat) : Nat → (List UInt8) → Int → (List Int) → Option ((List (List UInt8)))
  | 0, _, _, _ => none
  | n + 1, s5, s7, m16 => F_R1_Folded_b0 fu (F_R1_Folded_p0 fu n) s5 s7 m16
def F_R1_Folded (fu : Nat) (p0 : List UInt8) (p1 : List UInt8) : Option ((List (List UInt8))) :=
  bif decide (List.length p0 + List.length ([58, 32] : List UInt8) ≤ strMax) then
  bif decide (List.length (p0 ++ ([58, 32] : List UInt8)) + List.length p1 ≤ strMax) then
  F_R1_Folded_p0 fu fu ((p0 ++ ([58, 32] : List UInt8)) ++ p1) (w64 ((List.length p0 : Int) + (3 : Int))) []
  else none
  else none
/- posthouse/posthouseref1.FoldFault -/
def F_R1_FoldFault_b0 (fu : Nat) (r0 : Int → (Int × Int) → (List (List UInt8)) → Option ((Int × Int))) (s6 : Int) (m16 : Int × Int) (m17 : List (List UInt8)) : Option ((Int × Int)) :=
  bif decide (s6 < (List.length m17 : Int)) then
    bif decide (0 ≤ s6 ∧ s6.toNat < List.length m17) then
    (m17[s6.toNat]?).bind fun y1 =>
    bif decide ((998 : Int) < (List.length y1 : Int)) then
      (F_R1_At (1 : Int) s6).bind fun x2 =>
      some x2
    else
      r0 (w64 (s6 + (1 : Int))) m16 m17
    else none
  else
    some ((0 : Int), (0 : Int))
def F_R1_FoldFault_p0 (fu : Nat) : Nat → Int → (Int × Int) → (List (List UInt8)) → Option ((Int × Int))
  | 0, _, _, _ => none
  | n + 1, s6, m16, m17 => F_R1_FoldFault_b0 fu (F_R1_FoldFault_p0 fu n) s6 m16 m17
def F_R1_FoldFault (fu : Nat) (p0 : List UInt8) (p1 : List UInt8) : Option ((Int × Int)) :=
  (F_R1_FieldCode fu p0 p1).bind fun x1 =>
  bif x1 != (0 : Int) then
    (F_R1_FieldCode fu p0 p1).bind fun x2 =>
    (F_R1_At x2 (-1 : Int)).bind fun x3 =>
    some x3
  else
    (F_R1_Folded fu p0 p1).bind fun x4 =>
    F_R1_FoldFault_p0 fu fu (0 : Int) ((0 : Int), (0 : Int)) x4
/- posthouse/posthouseref1.FieldsFault -/
def F_R1_FieldsFault_b0 (fu : Nat) (r0 : (List ((List UInt8) × (List UInt8))) → Int → (Int × Int) → Option ((Int × Int))) (s0 : List ((List UInt8) × (List UInt8))) (s3 : Int) (m16 : Int × Int) : Option ((Int × Int)) :=
  bif decide (s3 < (List.length s0 : Int)) then
    (idx s0 s3).bind fun y1 =>
    (idx s0 s3).bind fun y2 =>
    (F_R1_FoldFault fu y1.1 y2.2).bind fun x3 =>
    bif x3.1 != (0 : Int) then
      (F_R1_At x3.1 s3).bind fun x4 =>
      some x4
    else
      r0 s0 (w64 (s3 + (1 : Int))) m16
  else
    some ((0 : Int), (0 : Int))
def F_R1_FieldsFault_p0 (fu : Nat) : Nat → (List ((List UInt8) × (List UInt8))) → Int → (Int × Int) → Option ((Int × Int))
  | 0, _, _, _ => none
  | n + 1, s0, s3, m16 => F_R1_FieldsFault_b0 fu (F_R1_FieldsFault_p0 fu n) s0 s3 m16
def F_R1_FieldsFault (fu : Nat) (p0 : List ((List UInt8) × (List UInt8))) : Option ((Int × Int)) :=
  bif decide ((60 : Int) < (List.length p0 : Int)) then
    (F_R1_At (2 : Int) (-1 : Int)).bind fun x1 =>
    some x1
  else
    F_R1_FieldsFault_p0 fu fu p0 (0 : Int) ((0 : Int), (0 : Int))
/- posthouse/posthouseref1.HeaderBytes -/
def F_R1_HeaderBytes_b1 (fu : Nat) (r0 : (List ((List UInt8) × (List UInt8))) → (List UInt8) → Int → Option ((List UInt8))) (r1 : (List ((List UInt8) × (List UInt8))) → (List UInt8) → Int → Int → (List (List UInt8)) → Option ((List UInt8))) (s0 : List ((List UInt8) × (List UInt8))) (s3 : List UInt8) (s4 : Int) (s6 : Int) (m16 : List (List UInt8)) : Option ((List UInt8)) :=
  bif decide (s6 < (List.length m16 : Int)) then
    bif decide (0 ≤ s6 ∧ s6.toNat < List.length m16) then
    (m16[s6.toNat]?).bind fun y1 =>
    bif decide (List.length s3 + List.length y1 ≤ strMax) then
    bif decide (List.length (s3 ++ y1) + List.length ([13, 10] : List UInt8) ≤ strMax) then
    r1 s0 ((s3 ++ y1) ++ ([13, 10] : List UInt8)) s4 (w64 (s6 + (1 : Int))) m16
    else none
    else none
    else none
  else
    r0 s0 s3 (w64 (s4 + (1 : Int)))
def F_R1_HeaderBytes_p1 (fu : Nat) (r0 : (List ((List UInt8) × (List UInt8))) → (List UInt8) → Int → Option ((List UInt8))) : Nat → (List ((List UInt8) × (List UInt8))) → (List UInt8) → Int → Int → (List (List UInt8)) → Option ((List UInt8))
  | 0, _, _, _, _, _ => none
  | n + 1, s0, s3, s4, s6, m16 => F_R1_HeaderBytes_b1 fu r0 (F_R1_HeaderBytes_p1 fu r0 n) s0 s3 s4 s6 m16
def F_R1_HeaderBytes_b0 (fu : Nat) (r0 : (List ((List UInt8) × (List UInt8))) → (List UInt8) → Int → Option ((List UInt8))) (s0 : List ((List UInt8) × (List UInt8))) (s3 : List UInt8) (s4 : Int) : Option ((List UInt8)) :=
  bif decide (s4 < (List.length s0 : Int)) then
    (idx s0 s4).bind fun y1 =>
    (idx s0 s4).bind fun y2 =>
    (F_R1_Folded fu y1.1 y2.2).bind fun x3 =>
    F_R1_HeaderBytes_p1 fu r0 fu s0 s3 s4 (0 : Int) x3
  else
    bif decide (List.length s3 + List.length ([13, 10] : List UInt8) ≤ strMax) then
    bif decide (List.length (s3 ++ ([13, 10] : List UInt8)) ≤ maxLen) then
    some (s3 ++ ([13, 10] : List UInt8))
    else none
    else none
def F_R1_HeaderBytes_p0 (fu : Nat) : Nat → (List ((List UInt8) × (List UInt8))) → (List UInt8) → Int → Option ((List UInt8))
  | 0, _, _, _ => none
  | n + 1, s0, s3, s4 => F_R1_HeaderBytes_b0 fu (F_R1_HeaderBytes_p0 fu n) s0 s3 s4
def F_R1_HeaderBytes (fu : Nat) (p0 : List ((List UInt8) × (List UInt8))) : Option ((List UInt8)) :=
  F_R1_HeaderBytes_p0 fu fu p0 ([] : List UInt8) (0 : Int)
/- posthouse/posthouseref2.BodyFault -/
def F_R2_BodyFault_p1 (fu : Nat) (r0 : (List UInt8) → Int → Int → (Int × Int) → Option ((Int × Int))) (s0 : List UInt8) (s3 : Int) (s4 : Int) (s29 : Bool) (m16 : Int × Int) : Option ((Int × Int)) :=
  bif s29 then
    (F_R1_At (11 : Int) (-5 : Int)).bind fun x1 =>
    some x1
  else
    bif decide ((998 : Int) ≤ (w64 (s4 - s3))) then
      (F_R1_At (1 : Int) (-6 : Int)).bind fun x2 =>
      some x2
    else
      r0 s0 s3 (w64 (s4 + (1 : Int))) m16
def F_R2_BodyFault_b0 (fu : Nat) (r0 : (List UInt8) → Int → Int → (Int × Int) → Option ((Int × Int))) (s0 : List UInt8) (s3 : Int) (s4 : Int) (m16 : Int × Int) : Option ((Int × Int)) :=
  bif decide (s4 < (List.length s0 : Int)) then
    (F_R1_Crlf s0 s4).bind fun x1 =>
    bif x1 then
      r0 s0 (w64 ((w64 (s4 + (1 : Int))) + (1 : Int))) (w64 ((w64 (s4 + (1 : Int))) + (1 : Int))) m16
    else
      (idx s0 s4).bind fun y2 =>
      bif y2 == (13 : UInt8) then
        F_R2_BodyFault_p1 fu r0 s0 s3 s4 true m16
      else
        (idx s0 s4).bind fun y3 =>
        F_R2_BodyFault_p1 fu r0 s0 s3 s4 (y3 == (10 : UInt8)) m16
  else
    some ((0 : Int), (0 : Int))
def F_R2_BodyFault_p0 (fu : Nat) : Nat → (List UInt8) → Int → Int → (Int × Int) → Option ((Int × Int))
  | 0, _, _, _, _ => none
  | n + 1, s0, s3, s4, m16 => F_R2_BodyFault_b0 fu (F_R2_BodyFault_p0 fu n) s0 s3 s4 m16
def F_R2_BodyFault (fu : Nat) (p0 : List UInt8) : Option ((Int × Int)) :=
  F_R2_BodyFault_p0 fu fu p0 (0 : Int) (0 : Int) ((0 : Int), (0 : Int))
/- posthouse/posthouseref2.MessageFault -/
def F_R2_MessageFault (fu : Nat) (p0 : (List ((List UInt8) × (List UInt8))) × (List UInt8)) : Option ((Int × Int)) :=
  (F_R1_FieldsFault fu p0.1).bind fun x1 =>
  bif x1.1 != (0 : Int) then
    some x1
  else
    bif decide ((12000 : Int) < (List.length p0.2 : Int)) then
      (F_R1_At (1 : Int) (-4 : Int)).bind fun x2 =>
      some x2
    else
      (F_R1_HeaderBytes fu p0.1).bind fun x3 =>
      bif decide ((12000 : Int) < (w64 ((List.length x3 : Int) + (List.length p0.2 : Int)))) then
        (F_R1_At (1 : Int) (-4 : Int)).bind fun x4 =>
        some x4
      else
        (F_R2_BodyFault fu p0.2).bind fun x5 =>
        some x5
/- posthouse/posthouseref2.MessageOf -/
abbrev R_R2_MessageOf : Type := ((List ((List UInt8) × (List UInt8))) × (List UInt8)) × (Int × Int)
def F_R2_MessageOf (fu : Nat) (p0 : List UInt8) : Option R_R2_MessageOf :=
  (F_R1_ReadHeader fu p0).bind fun x1 =>
  bif x1.2.1.1 != (0 : Int) then
    some (([], []), x1.2.1)
  else
    bif decide (0 ≤ x1.1 ∧ x1.1 ≤ (List.length p0 : Int)) then
    (F_R2_EndsOf fu (List.drop x1.1.toNat p0)).bind fun x2 =>
    (F_R2_MessageFault fu (x1.2.2, x2)).bind fun x3 =>
    bif x3.1 != (0 : Int) then
      some (([], []), x3)
    else
      some ((x1.2.2, x2), x3)
    else none
/- posthouse/posthouseref1.SameFields -/
def F_R1_SameFields_b0 (fu : Nat) (r0 : (List ((List UInt8) × (List UInt8))) → (List ((List UInt8) × (List UInt8))) → Int → Option Bool) (s0 : List ((List UInt8) × (List UInt8))) (s1 : List ((List UInt8) × (List UInt8))) (s5 : Int) : Option Bool :=
  bif decide (s5 < (List.length s0 : Int)) then
    (idx s0 s5).bind fun y1 =>
    (idx s1 s5).bind fun y2 =>
    bif !((y1.1 == y2.1) && ((y1.2 == y2.2) && true)) then
      some false
    else
      r0 s0 s1 (w64 (s5 + (1 : Int)))
  else
    some true
def F_R1_SameFields_p0 (fu : Nat) : Nat → (List ((List UInt8) × (List UInt8))) → (List ((List UInt8) × (List UInt8))) → Int → Option Bool
  | 0, _, _, _ => none
  | n + 1, s0, s1, s5 => F_R1_SameFields_b0 fu (F_R1_SameFields_p0 fu n) s0 s1 s5
def F_R1_SameFields (fu : Nat) (p0 : List ((List UInt8) × (List UInt8))) (p1 : List ((List UInt8) × (List UInt8))) : Option Bool :=
  bif (List.length p0 : Int) != (List.length p1 : Int) then
    some false
  else
    F_R1_SameFields_p0 fu fu p0 p1 (0 : Int)
/- posthouse/posthouseref1.Bytes -/
def F_R1_Bytes (p0 : List UInt8) (p1 : List UInt8) : Option Bool :=
  some (p0 == p1)
/- posthouse/posthouseref2.SameMessage -/
def F_R2_SameMessage (fu : Nat) (p0 : (List ((List UInt8) × (List UInt8))) × (List UInt8)) (p1 : (List ((List UInt8) × (List UInt8))) × (List UInt8)) : Option Bool :=
  (F_R1_SameFields fu p0.1 p1.1).bind fun x1 =>
  bif x1 then
    (F_R1_Bytes p0.2 p1.2).bind fun x2 =>
    some x2
  else
    some false
/- posthouse/posthouselaw2.MessageReadMatchesSpec -/
def F_W2_MessageReadMatchesSpec (fu : Nat) (p0 : List UInt8) : Option Bool :=
  (F_W2_messageExample fu).bind fun x1 =>
  bif !x1 then
    some false
  else
    (F_message_Read fu p0).bind fun x2 =>
    (F_R2_MessageOf fu p0).bind fun x3 =>
    bif x3.2.1 != (0 : Int) then
      bif ((x2.2.1 == x3.2.1) && ((x2.2.2 == x3.2.2) && true)) then
        (F_R2_SameMessage fu x2.1 ([], [])).bind fun x4 =>
        some x4
      else
        some false
    else
      bif x2.2.1 == (0 : Int) then
        (F_R2_SameMessage fu x2.1 x3.1).bind fun x5 =>
        some x5
      else
        some false
/- posthouse/posthouseref2.MessageBytes -/
def F_R2_MessageBytes (fu : Nat) (p0 : (List ((List UInt8) × (List UInt8))) × (List UInt8)) : Option ((List UInt8)) :=
  (F_R1_HeaderBytes fu p0.1).bind fun x1 =>
  bif decide (List.length (x1 ++ p0.2) ≤ rowMax) then
  some (x1 ++ p0.2)
  else none
/- posthouse/posthouselaw2.MessageWriteMatchesSpec -/
def F_W2_MessageWriteMatchesSpec_p0 (fu : Nat) (s23 : Bool) (m16 : (List ((List UInt8) × (List UInt8))) × (List UInt8)) (m17 : List UInt8) (m18 : Int × Int) (m19 : Int × Int) : Option Bool :=
  bif s23 then
    (F_message_Validate fu m16).bind fun x1 =>
    bif ((x1.1 == m19.1) && ((x1.2 == m19.2) && true)) then
      bif ((m18.1 == m19.1) && ((m18.2 == m19.2) && true)) then
        some ((List.length m17 : Int) == (0 : Int))
      else
        some false
    else
      some false
  else
    bif m18.1 == (0 : Int) then
      (F_R2_MessageBytes fu m16).bind fun x2 =>
      (F_R1_Bytes m17 x2).bind fun x3 =>
      some x3
    else
      some false
def F_W2_MessageWriteMatchesSpec (fu : Nat) (p0 : (List ((List UInt8) × (List UInt8))) × (List UInt8)) : Option Bool :=
  (F_W2_messageExample fu).bind fun x1 =>
  bif !x1 then
    some false
  else
    (F_message_Write fu p0).bind fun x2 =>
    (F_R2_MessageFault fu p0).bind fun x3 =>
    (F_message_Validate fu p0).bind fun x4 =>
    bif !((x4.1 == x3.1) && ((x4.2 == x3.2) && true)) then
      F_W2_MessageWriteMatchesSpec_p0 fu true p0 x2.2 x2.1 x3
    else
      F_W2_MessageWriteMatchesSpec_p0 fu (x3.1 != (0 : Int)) p0 x2.2 x2.1 x3
/- posthouse/posthouselaw2.MessageRoundTrip -/
def F_W2_MessageRoundTrip (fu : Nat) (p0 : (List ((List UInt8) × (List UInt8))) × (List UInt8)) : Option Bool :=
  (F_W2_messageExample fu).bind fun x1 =>
  bif !x1 then
    some false
  else
    (F_message_Write fu p0).bind fun x2 =>
    bif x2.1.1 != (0 : Int) then
      some ((List.length x2.2 : Int) == (0 : Int))
    else
      (F_message_Read fu x2.2).bind fun x3 =>
      bif x3.2.1 == (0 : Int) then
        (F_R2_SameMessage fu x3.1 p0).bind fun x4 =>
        some x4
      else
        some false
/- posthouse/posthouseref1.Lower -/
def F_R1_Lower_b0 (fu : Nat) (r0 : Int → (List UInt8) → Option ((List UInt8))) (s4 : Int) (m16 : List UInt8) : Option ((List UInt8)) :=
  bif decide (s4 < (List.length m16 : Int)) then
    bif decide (0 ≤ s4 ∧ s4.toNat < List.length m16) then
    (m16[s4.toNat]?).bind fun y1 =>
    (F_R1_In (y1.toNat : Int) (65 : Int) (90 : Int)).bind fun x2 =>
    bif x2 then
      bif decide (0 ≤ s4 ∧ s4.toNat < List.length m16) then
      (m16[s4.toNat]?).bind fun y3 =>
      bif decide (0 ≤ s4 ∧ s4.toNat < List.length m16) then
      (m16[s4.toNat]?).bind fun y4 =>
      r0 (w64 (s4 + (1 : Int))) (List.set m16 s4.toNat (y3 + (32 : UInt8)))
      else none
      else none
    else
      r0 (w64 (s4 + (1 : Int))) m16
    else none
  else
    some m16
def F_R1_Lower_p0 (fu : Nat) : Nat → Int → (List UInt8) → Option ((List UInt8))
  | 0, _, _ => none
  | n + 1, s4, m16 => F_R1_Lower_b0 fu (F_R1_Lower_p0 fu n) s4 m16
def F_R1_Lower (fu : Nat) (p0 : List UInt8) : Option ((List UInt8)) :=
  bif decide (List.length p0 ≤ maxLen) then
  F_R1_Lower_p0 fu fu (0 : Int) p0
  else none
/- posthouse/posthouseref1.Alike -/
def F_R1_Alike (fu : Nat) (p0 : List UInt8) (p1 : List UInt8) : Option Bool :=
  (F_R1_Lower fu p0).bind fun x1 =>
  (F_R1_Lower fu p1).bind fun x2 =>
  some (x1 == x2)
/- posthouse/posthouseref1.ValuesOf -/
def F_R1_ValuesOf_b0 (fu : Nat) (r0 : (List ((List UInt8) × (List UInt8))) → (List UInt8) → Int → (List (List UInt8)) → Option ((List (List UInt8)))) (s0 : List ((List UInt8) × (List UInt8))) (s1 : List UInt8) (s6 : Int) (m16 : List (List UInt8)) : Option ((List (List UInt8))) :=
  bif decide (s6 < (List.length s0 : Int)) then
    (idx s0 s6).bind fun y1 =>
    (F_R1_Alike fu y1.1 s1).bind fun x2 =>
    bif x2 then
      (idx s0 s6).bind fun y3 =>
      bif decide (List.length (m16 ++ ([y3.2] : List (List UInt8))) ≤ rowMax) then
      r0 s0 s1 (w64 (s6 + (1 : Int))) (m16 ++ ([y3.2] : List (List UInt8)))
      else none
    else
      r0 s0 s1 (w64 (s6 + (1 : Int))) m16
  else
    some m16
def F_R1_ValuesOf_p0 (fu : Nat) : Nat → (List ((List UInt8) × (List UInt8))) → (List UInt8) → Int → (List (List UInt8)) → Option ((List (List UInt8)))
  | 0, _, _, _, _ => none
  | n + 1, s0, s1, s6, m16 => F_R1_ValuesOf_b0 fu (F_R1_ValuesOf_p0 fu n) s0 s1 s6 m16
def F_R1_ValuesOf (fu : Nat) (p0 : List ((List UInt8) × (List UInt8))) (p1 : List UInt8) : Option ((List (List UInt8))) :=
  F_R1_ValuesOf_p0 fu fu p0 p1 (0 : Int) []
/- posthouse/posthouseref2.IdOf -/
def F_R2_IdOf_b2 (fu : Nat) (r2 : (List UInt8) → Int → Option ((List UInt8) × Bool)) (s5 : List UInt8) (s6 : Int) : Option ((List UInt8) × Bool) :=
  bif decide (s6 < (List.length s5 : Int)) then
    (idx s5 s6).bind fun c1 =>
    (F_R1_OneOf fu c1 ([60, 62, 32, 9] : List UInt8)).bind fun x2 =>
    bif x2 then
      some (([] : List UInt8), false)
    else
      r2 s5 (w64 (s6 + (1 : Int)))
  else
    some (s5, true)
def F_R2_IdOf_p2 (fu : Nat) : Nat → (List UInt8) → Int → Option ((List UInt8) × Bool)
  | 0, _, _ => none
  | n + 1, s5, s6 => F_R2_IdOf_b2 fu (F_R2_IdOf_p2 fu n) s5 s6
def F_R2_IdOf_p1 (fu : Nat) (m16 : List (List UInt8)) : Option ((List UInt8) × Bool) :=
  bif decide (0 ≤ (0 : Int) ∧ (0 : Int).toNat < List.length m16) then
  (m16[(0 : Int).toNat]?).bind fun y1 =>
  bif decide (0 ≤ (0 : Int) ∧ (0 : Int).toNat < List.length m16) then
  (m16[(0 : Int).toNat]?).bind fun y2 =>
  bif decide (0 ≤ (1 : Int) ∧ (1 : Int) ≤ w64 ((List.length y2 : Int) - (1 : Int)) ∧ w64 ((List.length y2 : Int) - (1 : Int)) ≤ (List.length y1 : Int)) then
  F_R2_IdOf_p2 fu fu (List.take ((w64 ((List.length y2 : Int) - (1 : Int))).toNat - (1 : Int).toNat) (List.drop (1 : Int).toNat y1)) (0 : Int)
  else none
  else none
  else none
def F_R2_IdOf_p0 (fu : Nat) (s38 : Bool) (m16 : List (List UInt8)) : Option ((List UInt8) × Bool) :=
  bif s38 then
    some (([] : List UInt8), false)
  else
    F_R2_IdOf_p1 fu m16
def F_R2_IdOf (fu : Nat) (p0 : (List ((List UInt8) × (List UInt8))) × (List UInt8)) : Option ((List UInt8) × Bool) :=
  (F_R1_ValuesOf fu p0.1 ([109, 101, 115, 115, 97, 103, 101, 45, 105, 100] : List UInt8)).bind fun x1 =>
  bif (List.length x1 : Int) == (0 : Int) then
    F_R2_IdOf_p0 fu true x1
  else
    bif decide (0 ≤ (0 : Int) ∧ (0 : Int).toNat < List.length x1) then
    (x1[(0 : Int).toNat]?).bind fun y2 =>
    bif decide ((List.length y2 : Int) < (3 : Int)) then
      F_R2_IdOf_p0 fu true x1
    else
      bif decide (0 ≤ (0 : Int) ∧ (0 : Int).toNat < List.length x1) then
      (x1[(0 : Int).toNat]?).bind fun y3 =>
      (idx y3 (0 : Int)).bind fun c4 =>
      bif c4 != (60 : UInt8) then
        F_R2_IdOf_p0 fu true x1
      else
        bif decide (0 ≤ (0 : Int) ∧ (0 : Int).toNat < List.length x1) then
        (x1[(0 : Int).toNat]?).bind fun y5 =>
        bif decide (0 ≤ (0 : Int) ∧ (0 : Int).toNat < List.length x1) then
        (x1[(0 : Int).toNat]?).bind fun y6 =>
        (idx y5 (w64 ((List.length y6 : Int) - (1 : Int)))).bind fun c7 =>
        F_R2_IdOf_p0 fu (c7 != (62 : UInt8)) x1
        else none
        else none
      else none
    else none
/- posthouse/posthouselaw2.MessageIdMatchesSpec -/
def F_W2_MessageIdMatchesSpec_p1 (fu : Nat) (m16 : (List ((List UInt8) × (List UInt8))) × (List UInt8)) : Option Bool :=
  (F_message_Id fu m16).bind fun x1 =>
  (F_R2_MessageFault fu m16).bind fun x2 =>
  bif x2.1 != (0 : Int) then
    bif ((x1.2.2.1 == x2.1) && ((x1.2.2.2 == x2.2) && true)) then
      bif x1.1 == ([] : List UInt8) then
        some (!x1.2.1)
      else
        some false
    else
      some false
  else
    (F_R2_IdOf fu m16).bind fun x3 =>
    bif x1.2.2.1 == (0 : Int) then
      bif x1.2.1 == x3.2 then
        some (x1.1 == x3.1)
      else
        some false
    else
      some false
def F_W2_MessageIdMatchesSpec_p0 (fu : Nat) (s19 : Bool) (m16 : (List ((List UInt8) × (List UInt8))) × (List UInt8)) : Option Bool :=
  bif s19 then
    some false
  else
    F_W2_MessageIdMatchesSpec_p1 fu m16
def F_W2_MessageIdMatchesSpec (fu : Nat) (p0 : (List ((List UInt8) × (List UInt8))) × (List UInt8)) : Option Bool :=
  (F_W2_messageExample fu).bind fun x1 =>
  bif !x1 then
    F_W2_MessageIdMatchesSpec_p0 fu true p0
  else
    (F_message_Trace fu p0).bind fun x2 =>
    (F_R1_ValuesOf fu p0.1 ([114, 101, 99, 101, 105, 118, 101, 100] : List UInt8)).bind fun x3 =>
    F_W2_MessageIdMatchesSpec_p0 fu (x2 != (List.length x3 : Int)) p0
/- posthouse/posthouselaw2.MessageReadsOnce -/
def F_W2_MessageReadsOnce (fu : Nat) (p0 : List UInt8) : Option Bool :=
  (F_W2_messageExample fu).bind fun x1 =>
  bif !x1 then
    some false
  else
    (F_message_Read fu p0).bind fun x2 =>
    bif x2.2.1 != (0 : Int) then
      (F_R2_SameMessage fu x2.1 ([], [])).bind fun x3 =>
      some x3
    else
      (F_message_Write fu x2.1).bind fun x4 =>
      (F_message_Read fu x4.2).bind fun x5 =>
      bif x4.1.1 == (0 : Int) then
        bif x5.2.1 == (0 : Int) then
          (F_R2_SameMessage fu x5.1 x2.1).bind fun x6 =>
          some x6
        else
          some false
      else
        some false
end Go.Sym
/- sync.Once in one goroutine: the function is called, or it was called before. -/
namespace Go.Proofs.YtojpbgaccmkggaaGreatDoor.Once
theorem disable (w : World) : (callFunc 124 #[]).run Tryz.prog w = .ok (.value (.tuple #[])) w := run_call_mark0 Tryz.func124 (by kernel_rfl) (by kernel_rfl) (by kernel_rfl) .disable (by kernel_rfl) w
theorem enable (w : World) : (callFunc 126 #[]).run Tryz.prog w = .ok (.value (.tuple #[])) w := run_call_mark0 Tryz.func126 (by kernel_rfl) (by kernel_rfl) (by kernel_rfl) .enable (by kernel_rfl) w
theorem acquire (a : Addr) (w : World) : (callFunc 127 #[.pointer (some a)]).run Tryz.prog w = .ok (.value (.tuple #[])) w := run_call_marked Tryz.func127 (by kernel_rfl) (by kernel_rfl) (by kernel_rfl) .acquire (by kernel_rfl) a w
theorem releaseMerge (a : Addr) (w : World) : (callFunc 129 #[.pointer (some a)]).run Tryz.prog w = .ok (.value (.tuple #[])) w := run_call_marked Tryz.func129 (by kernel_rfl) (by kernel_rfl) (by kernel_rfl) .releaseMerge (by kernel_rfl) a w
set_option maxRecDepth 100000 in
set_option maxHeartbeats 1600000 in
theorem store_deferred (a : Addr) (x : Value) (u : FrameMode) (w : World) (hc : w.cell? a = some x) (hz : w.frozen? a = false) :
    CallsD Tryz.prog 111 #[.pointer (some a), .bool true] u w fun e u' w' => u' = u ∧ (e = .returned (.tuple #[]) ∧ w' = w.drew.setCell a (.int .u32 1)) := by
  have hc' : w.drew.cell? a = some x := by go_simp
  have hz' : w.drew.frozen? a = false := by go_simp
  have hst := run_call_store (P := Tryz.prog) Tryz.func118 (by kernel_rfl) (by kernel_rfl) (by kernel_rfl) (by kernel_rfl) (k := .u32) (y := 1) hc' hz'
  go_enter_d Tryz.func111, Tryz.ntmps111
  go_wp2
  go_region_calls
  all_goals (go_end0; exact ⟨rfl, rfl⟩)
set_option maxRecDepth 100000 in
set_option maxHeartbeats 1600000 in
theorem unlock_deferred (a : Addr) (u : FrameMode) (w : World) (hc : w.cell? a = some (.int .i32 1)) (hz : w.frozen? a = false) :
    CallsD Tryz.prog 110 #[.pointer (some a)] u w fun e u' w' => u' = u ∧ (e = .returned (.tuple #[]) ∧ w' = w.setCell a (.int .i32 0)) := by
  have hd := disable
  have he := enable
  have hr := releaseMerge
  have hadd := run_call_add (P := Tryz.prog) Tryz.func130 (by kernel_rfl) (by kernel_rfl) (by kernel_rfl) .i32 (by kernel_rfl) (y := -1) (s := 0) hc hz (by simp [go_sem]; rfl)
  have hcv := run_convert_to_unsafe (P := Tryz.prog) (src := 158) (dst := 162) Tryz.underlying158 Tryz.underlying162 (by kernel_rfl) hc
  go_enter_d Tryz.func110, Tryz.ntmps110
  go_wp2
  go_end0
  go_wp2
  go_end0
  exact ⟨rfl, rfl⟩
set_option maxRecDepth 100000 in
set_option maxHeartbeats 1600000 in
theorem lock_free (a : Addr) (w : World) (hc : w.cell? a = some (.int .i32 0)) (hz : w.frozen? a = false) :
    Calls Tryz.prog 109 #[.pointer (some a)] w fun e w' => e = .returned (.tuple #[]) ∧ w' = w.setCell a (.int .i32 1) := by
  have hd := disable
  have he := enable
  have ha := acquire
  have hcas := run_call_cas_hit (P := Tryz.prog) Tryz.func125 (by kernel_rfl) (by kernel_rfl) (by kernel_rfl) .i32 (by kernel_rfl) (y := 1) hc hz
  have hc' : (w.setCell a (.int .i32 1)).cell? a = some (.int .i32 1) := World.cell?_setCell_same w a _ hc
  have hcv := run_convert_to_unsafe (P := Tryz.prog) (src := 158) (dst := 162) Tryz.underlying158 Tryz.underlying162 (by kernel_rfl) hc'
  go_enter Tryz.func109, Tryz.ntmps109
  go_wp2
  first | go_end0 | (simp only [Exit.inBlock, Exit.then]; refine bodyPost_ret (results_none rfl _ _ _) rfl ?_) | refine bodyPost_ret (results_none rfl _ _ _) rfl ?_
  go_wp2
  go_end0
  exact ⟨rfl, rfl⟩
end Go.Proofs.YtojpbgaccmkggaaGreatDoor.Once
/- sync.Once in one goroutine: its two ways. -/
namespace Go.Proofs.YtojpbgaccmkggaaGreatDoor.Once
set_option maxRecDepth 100000 in
set_option maxHeartbeats 1600000 in
theorem slow (b : Nat) (w : World) (R : World → Prop)
    (h0 : w.cell? ⟨b, 0, none⟩ = some (.int .u32 0)) (h1 : w.cell? ⟨b, 0 + 1, none⟩ = some (.int .i32 0)) (_f0 : w.frozen? ⟨b, 0, none⟩ = false) (f1 : w.frozen? ⟨b, 0 + 1, none⟩ = false)
    (hf : Calls Tryz.prog 77 #[.pointer (some ⟨b, 0, none⟩)] (w.setCell ⟨b, 0 + 1, none⟩ (.int .i32 1)) fun e w' => e = .returned (.tuple #[]) ∧ R w')
    (hR : ∀ w', R w' → w'.cell? ⟨b, 0, none⟩ = some (.int .u32 0) ∧ w'.frozen? ⟨b, 0, none⟩ = false ∧ w'.cell? ⟨b, 0 + 1, none⟩ = some (.int .i32 1) ∧ w'.frozen? ⟨b, 0 + 1, none⟩ = false) :
    Calls Tryz.prog 95 #[.pointer (some ⟨b, 0, none⟩), .func (.func 77) #[.pointer (some ⟨b, 0, none⟩)] #[]] w fun e w' => e = .returned (.tuple #[]) ∧ ∃ w1, R w1 ∧ w' = (w1.drew.setCell ⟨b, 0, none⟩ (.int .u32 1)).setCell ⟨b, 0 + 1, none⟩ (.int .i32 0) := by
  have hl := run_call_load (P := Tryz.prog) Tryz.func108 (by kernel_rfl) (by kernel_rfl) (by kernel_rfl) .u32 (by kernel_rfl) (w := w.setCell ⟨b, 0 + 1, none⟩ (.int .i32 1)) (a := ⟨b, 0, none⟩) (x := 0) ((World.cell?_setCell_other _ ⟨b, 0 + 1, none⟩ ⟨b, 0, none⟩ _ (by simp)).trans h0)
  have hnot : ∀ (x : Bool) (w : World), (Op.unary .not (.bool x)).run Tryz.prog w = .ok (.bool (!x)) w := fun _ _ => rfl
  go_enter_defers Tryz.func95, Tryz.ntmps95
  go_wp2_with (first | (go_at_call 109; refine (lock_free ⟨b, 0 + 1, none⟩ _ (by go_simp) (by go_simp)).mono ?_; rintro e w' ⟨rfl, rfl⟩) | (go_at_call 94; go_in) | (go_at_call 77; refine hf.mono ?_; rintro e w' ⟨rfl, hw⟩))
  obtain ⟨r0, rf0, r1, rf1⟩ := hR w' hw
  first | go_end0 | skip
  first | go_wp2 | skip
  refine leaves_cons (f := 111) (args := #[.pointer (some ⟨b, 0, none⟩), .bool true]) (by simp) (by simp [go_sem]) ?_
  refine (store_deferred ⟨b, 0, none⟩ (.int .u32 0) .returning _ r0 rf0).mono ?_
  rintro e u' w'' ⟨rfl, rfl, rfl⟩
  refine leaves_cons (f := 110) (args := #[.pointer (some ⟨b, 0 + 1, none⟩)]) (by simp [settle]) (by simp [go_sem]) ?_
  have r1' : (w'.drew.setCell ⟨b, 0, none⟩ (.int .u32 1)).cell? ⟨b, 0 + 1, none⟩ = some (.int .i32 1) := by
    refine (World.cell?_setCell_other _ ⟨b, 0, none⟩ ⟨b, 0 + 1, none⟩ _ (by simp)).trans ?_
    rw [World.cell?_drew]; exact r1
  refine (unlock_deferred ⟨b, 0 + 1, none⟩ _ _ r1' (by simp [rf1])).mono ?_
  rintro e u' w'' ⟨rfl, rfl, rfl⟩
  simp [Leaves, settle, results, Tryz.results95]
  exact ⟨w', hw, rfl⟩
set_option maxRecDepth 100000 in
set_option maxHeartbeats 1600000 in
theorem do_first (b : Nat) (w : World) (R : World → Prop)
    (h0 : w.cell? ⟨b, 0, none⟩ = some (.int .u32 0)) (h1 : w.cell? ⟨b, 0 + 1, none⟩ = some (.int .i32 0)) (f0 : w.frozen? ⟨b, 0, none⟩ = false) (f1 : w.frozen? ⟨b, 0 + 1, none⟩ = false)
    (hf : Calls Tryz.prog 77 #[.pointer (some ⟨b, 0, none⟩)] (w.setCell ⟨b, 0 + 1, none⟩ (.int .i32 1)) fun e w' => e = .returned (.tuple #[]) ∧ R w')
    (hR : ∀ w', R w' → w'.cell? ⟨b, 0, none⟩ = some (.int .u32 0) ∧ w'.frozen? ⟨b, 0, none⟩ = false ∧ w'.cell? ⟨b, 0 + 1, none⟩ = some (.int .i32 1) ∧ w'.frozen? ⟨b, 0 + 1, none⟩ = false) :
    Calls Tryz.prog 76 #[.pointer (some ⟨b, 0, none⟩), .func (.func 77) #[.pointer (some ⟨b, 0, none⟩)] #[]] w fun e w' => e = .returned (.tuple #[]) ∧ ∃ w1, R w1 ∧ w' = (w1.drew.setCell ⟨b, 0, none⟩ (.int .u32 1)).setCell ⟨b, 0 + 1, none⟩ (.int .i32 0) := by
  have hl := run_call_load (P := Tryz.prog) Tryz.func108 (by kernel_rfl) (by kernel_rfl) (by kernel_rfl) .u32 (by kernel_rfl) h0
  have hnot : ∀ (x : Bool) (w : World), (Op.unary .not (.bool x)).run Tryz.prog w = .ok (.bool (!x)) w := fun _ _ => rfl
  go_enter Tryz.func76, Tryz.ntmps76
  go_wp2_with (first | (go_at_call 94; go_in) | (go_at_call 95; refine (slow b w R h0 h1 f0 f1 hf hR).mono ?_; rintro e w' ⟨rfl, w1, hw1, rfl⟩))
  go_end0
  exact ⟨rfl, w1, hw1, rfl⟩
set_option maxRecDepth 100000 in
set_option maxHeartbeats 1600000 in
theorem do_done (a : Addr) (d : Int) (hd : ¬ d = 0) (fv : Value) (w : World) (h0 : w.cell? a = some (.int .u32 d)) :
    Calls Tryz.prog 76 #[.pointer (some a), fv] w fun e w' => e = .returned (.tuple #[]) ∧ w' = w := by
  have hl := run_call_load (P := Tryz.prog) Tryz.func108 (by kernel_rfl) (by kernel_rfl) (by kernel_rfl) .u32 (by kernel_rfl) h0
  have hnot : ∀ (x : Bool) (w : World), (Op.unary .not (.bool x)).run Tryz.prog w = .ok (.bool (!x)) w := fun _ _ => rfl
  have hd' : (d != 0) = true := by simp [hd]
  go_enter Tryz.func76, Tryz.ntmps76
  go_wp2
  go_end0
  exact ⟨rfl, rfl⟩
end Go.Proofs.YtojpbgaccmkggaaGreatDoor.Once
/- strings.Replacer's Replace: the first call, and the later ones. -/
namespace Go.Proofs.YtojpbgaccmkggaaGreatDoor.Once
set_option maxRecDepth 100000 in
set_option maxHeartbeats 1600000 in
theorem replace_first (b : Nat) (s : ByteArray) (w : World) (R : World → Prop) (Q : Value → World → Prop)
    (h0 : w.cell? ⟨b, 0, none⟩ = some (.int .u32 0)) (h1 : w.cell? ⟨b, 0 + 1, none⟩ = some (.int .i32 0)) (f0 : w.frozen? ⟨b, 0, none⟩ = false) (f1 : w.frozen? ⟨b, 0 + 1, none⟩ = false)
    (hf : Calls Tryz.prog 77 #[.pointer (some ⟨b, 0, none⟩)] (w.setCell ⟨b, 0 + 1, none⟩ (.int .i32 1)) fun e w' => e = .returned (.tuple #[]) ∧ R w')
    (hR : ∀ w', R w' → w'.cell? ⟨b, 0, none⟩ = some (.int .u32 0) ∧ w'.frozen? ⟨b, 0, none⟩ = false ∧ w'.cell? ⟨b, 0 + 1, none⟩ = some (.int .i32 1) ∧ w'.frozen? ⟨b, 0 + 1, none⟩ = false)
    (hg : ∀ w', R w' → ∃ g, w'.cell? ⟨b, 3, none⟩ = some (.iface 134 (.pointer (some ⟨g, 0, none⟩))) ∧
      Calls Tryz.prog 170 #[.pointer (some ⟨g, 0, none⟩), .string s] ((w'.drew.setCell ⟨b, 0, none⟩ (.int .u32 1)).setCell ⟨b, 0 + 1, none⟩ (.int .i32 0)) fun e w'' => ∃ v, e = .returned v ∧ Q v w'') :
    Calls Tryz.prog 48 #[.pointer (some ⟨b, 0, none⟩), .string s] w fun e w' => ∃ v, e = .returned v ∧ Q v w' := by
  have hme : ∀ (g : Nat) (w : World), (method 311 134 (.pointer (some ⟨g, 0, none⟩)) "Replace").run Tryz.prog w = .ok (170, .pointer (some ⟨g, 0, none⟩)) w := fun _ _ => by kernel_rfl
  go_enter Tryz.func48, Tryz.ntmps48
  go_wp2_with (first | (go_at_call 76; refine (do_first b w R h0 h1 f0 f1 hf hR).mono ?_; rintro e w' ⟨rfl, w1, hw1, rfl⟩; obtain ⟨g, hg1, hg2⟩ := hg w1 hw1; have hc3 : ((w1.drew.setCell ⟨b, 0, none⟩ (.int .u32 1)).setCell ⟨b, 0 + 1, none⟩ (.int .i32 0)).cell? ⟨b, 3, none⟩ = some (.iface 134 (.pointer (some ⟨g, 0, none⟩))) := ((World.cell?_setCell_other _ ⟨b, 0 + 1, none⟩ ⟨b, 3, none⟩ _ (by simp)).trans ((World.cell?_setCell_other _ ⟨b, 0, none⟩ ⟨b, 3, none⟩ _ (by simp)).trans (by rw [World.cell?_drew]; exact hg1)))) | (go_at_call 170; refine hg2.mono ?_; rintro e w' ⟨v, rfl, hq⟩))
  go_ret
  exact ⟨_, rfl, hq⟩
set_option maxRecDepth 100000 in
set_option maxHeartbeats 1600000 in
theorem replace_done (b g : Nat) (s : ByteArray) (w : World) (Q : Value → World → Prop) (d : Int) (hd : ¬ d = 0)
    (h0 : w.cell? ⟨b, 0, none⟩ = some (.int .u32 d)) (hc3 : w.cell? ⟨b, 3, none⟩ = some (.iface 134 (.pointer (some ⟨g, 0, none⟩))))
    (hg2 : Calls Tryz.prog 170 #[.pointer (some ⟨g, 0, none⟩), .string s] w fun e w'' => ∃ v, e = .returned v ∧ Q v w'') :
    Calls Tryz.prog 48 #[.pointer (some ⟨b, 0, none⟩), .string s] w fun e w' => ∃ v, e = .returned v ∧ Q v w' := by
  have hme : ∀ (g : Nat) (w : World), (method 311 134 (.pointer (some ⟨g, 0, none⟩)) "Replace").run Tryz.prog w = .ok (170, .pointer (some ⟨g, 0, none⟩)) w := fun _ _ => by kernel_rfl
  go_enter Tryz.func48, Tryz.ntmps48
  go_wp2_with (first | (go_at_call 76; refine (do_done ⟨b, 0, none⟩ d hd _ w h0).mono ?_; rintro e w' ⟨rfl, rfl⟩) | (go_at_call 170; refine hg2.mono ?_; rintro e w' ⟨v, rfl, hq⟩))
  go_ret
  exact ⟨_, rfl, hq⟩
end Go.Proofs.YtojpbgaccmkggaaGreatDoor.Once
/- Steps of the world by hand, at pieces of memory. -/
namespace Go.Sym
open Go.RowKit
variable [LC]
section
variable {P : Program} {w₀ : World} {G₀ : Gh} {hp₀ : List (Nat × Box)} {G : Gh} {s : St} {a : Act} {w : World}
theorem Rel.drewOk (hr : Rel w₀ G₀ hp₀ G s a w) : Rel w₀ G₀ hp₀ G s a w.drew :=
  ⟨hr.defers, hr.size, hr.frame, hr.fresh, ⟨⟨hr.fin.mem.agree, hr.fin.mem.one, hr.fin.mem.holds, hr.fin.mem.apart⟩, ⟨hr.fin.bel.os, hr.fin.bel.tape, hr.fin.bel.output, hr.fin.bel.size, hr.fin.bel.block⟩, hr.fin.imm_le, hr.fin.imm_new, hr.fin.base, hr.fin.keep, hr.fin.keepOwn⟩⟩
omit [LC] in
theorem Reps.setAt {G : Gh} {x : AV} {v : Value} (hx : Rep x G v) : ∀ {xs : List AV} {vs : List Value} {i : Nat}, Reps xs G vs → Reps (xs.set i x) G (vs.set i v)
  | [], [], _, _ => trivial
  | _ :: _, _ :: _, 0, h => ⟨hx, h.2⟩
  | _ :: _, _ :: _, _ + 1, h => ⟨h.1, Reps.setAt hx h.2⟩
  | [], _ :: _, _, h => h.elim
  | _ :: _, [], _, h => h.elim
theorem Rel.setCellAt (hr : Rel w₀ G₀ hp₀ G s a w) {n B i : Nat} {cs : List AV} {T : TypeId} {x : AV} {v : Value} (hn : look s.hp n = some (.cells cs T)) (hB : G.box n = some B) (hx : Rep x G v) (h1 : v.oneCell' = true) :
    Rel w₀ G₀ hp₀ G { s with hp := (n, .cells (cs.set i x) T) :: s.hp } a (w.setCell ⟨B, i, none⟩ v) := by
  obtain ⟨B', vs, k1, k2, k3, k4, k5⟩ := hr.fin.mem.holds n _ hn
  rw [hB] at k1; cases k1
  have hheap : (w.setCell ⟨B, i, none⟩ v).heap[B]? = some (.cells (vs.setIfInBounds i v) T (0, 0)) := by
    simp [World.setCell, Array.getElem?_modify, k2]
  have hbel : Bel (fun b => b = B) w (w.setCell ⟨B, i, none⟩ v) :=
    ⟨rfl, rfl, rfl, by simp [World.setCell], fun k _ hne => by
      simp only [World.setCell, Array.getElem?_modify]
      rw [if_neg (fun e => hne e.symm)]⟩
  have hat : ∀ cs', G.at n (.cells cs' T) = some B := fun _ => hB
  refine ⟨hr.defers, hr.size, hr.frame, fun m hm hl => hr.fresh m hm (by
    simp only [look] at hl
    cases hb : Nat.beq n m
    · rw [hb] at hl; exact hl
    · rw [hb] at hl; cases hl), hr.fin.update hn (hat cs) (hat _) hbel ⟨B, _, hB, hheap, ?_, ?_, k5⟩ k5⟩
  · rw [Array.toList_setIfInBounds]; exact Reps.setAt hx k3
  · intro u hu
    rw [Array.toList_setIfInBounds] at hu
    rcases List.mem_or_eq_of_mem_set hu with hu | hu
    · exact k4 u hu
    · rw [hu]; exact h1
/-- what a box of cells holds -/
theorem Rel.cellAt (hr : Rel w₀ G₀ hp₀ G s a w) {n B i : Nat} {cs : List AV} {T : TypeId} {x : AV} (hn : look s.hp n = some (.cells cs T)) (hB : G.box n = some B) (hx : cs[i]? = some x) :
    ∃ v, w.cell? ⟨B, i, none⟩ = some v ∧ Rep x G v ∧ w.frozen? ⟨B, i, none⟩ = false := by
  obtain ⟨B', vs, k1, k2, k3, k4, k5⟩ := hr.fin.mem.holds n _ hn
  rw [hB] at k1; cases k1
  obtain ⟨v, v1, v2⟩ := reps_get k3 hx
  refine ⟨v, cell_of_heap k2 v1, v2, ?_⟩
  simp only [World.frozen?, k2]
  simp
/-- the start of a call that is handed these pieces of memory -/
theorem Rel.start {G : Gh} {hp : List (Nat × Box)} {w : World} {N : NM} (hm : Mem G hp w) (h : ∀ n b, look hp n = some b → rho N n = some n ∧ renB (rho N) b = b) (hN : ∀ n, look hp n = none → lookN N n = none) (k : Nat) :
    Rel w (G.view N) hp (G.view N) { n := k, fr := [], hp := hp, nx := 64, df := [] } { tmps := Array.replicate k undef, defers := [] } w := by
  refine ⟨⟨[], rfl, rfl⟩, by simp, fun i x hx => (by cases hx), fun m _ hl => ?_, blocks_self (hm.only h)⟩
  have := hN m hl
  simp [Gh.view, this]
end
end Go.Sym
