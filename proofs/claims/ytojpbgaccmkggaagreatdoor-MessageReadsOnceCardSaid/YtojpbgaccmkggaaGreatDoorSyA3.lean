/- What the claim rests on, part 3: gathered texts. -/
import Derived.RangeFuncRecord
import Derived.Laws.RangeAny
import Derived.Test.YtojpbgaccmkggaaGreatDoorSyA2
/- Operations that make or change memory: what they ask for. -/
namespace Go.Sym
open Go.RowKit
variable [LC]

/-- a slice or a string as data of a known type -/
def lstOf (s : St) (τ : Ty) : AV → Option (List τ.den)
  | .sl τ' l => match Ty.eq? τ' τ with
    | some ⟨h⟩ => some (h ▸ l)
    | none => none
  | .str b => match Ty.eq? .byte τ with
    | some ⟨h⟩ => some (h ▸ (b : List Ty.byte.den))
    | none => none
  | .own k => match look s.hp k with
    | some (.row τ' l _) => match Ty.eq? τ' τ with
      | some ⟨h⟩ => some (h ▸ l)
      | none => none
    | _ => none
  | .asl b _ _ => match look s.hp b with
    | some (.cells cs _) => decL τ cs
    | _ => none
  | .val (.slice none 0 0) => some []
  | _ => none
omit [LC] in
theorem lstOf_src {s : St} {τ : Ty} {v : AV} {l : List τ.den} (h : lstOf s τ v = some l) {flat : List AV} {n : Nat} (hs : srcOf s v = some (flat, n)) : flat = l.flatMap τ.enc ∧ n = l.length := by
  unfold lstOf at h
  split at h
  · split at h
    · rename_i hh _
      subst hh
      have h := Option.some.inj h
      subst h
      simp only [srcOf, Option.some.injEq, Prod.mk.injEq] at hs; obtain ⟨rfl, rfl⟩ := hs
      exact ⟨rfl, rfl⟩
    · cases h
  · split at h
    · rename_i hh _
      subst hh
      have h := Option.some.inj h
      subst h
      simp only [srcOf, Option.some.injEq, Prod.mk.injEq] at hs; obtain ⟨rfl, rfl⟩ := hs
      exact ⟨(flat_encB _).symm, rfl⟩
    · cases h
  · split at h
    · rename_i hl
      split at h
      · rename_i hh _
        subst hh
        have h := Option.some.inj h
        subst h
        simp only [srcOf, hl, Option.some.injEq, Prod.mk.injEq] at hs; obtain ⟨rfl, rfl⟩ := hs
        exact ⟨rfl, rfl⟩
      · cases h
    · cases h
  · rename_i b m c
    split at h
    · rename_i cs T hl
      simp only [srcOf, hl] at hs
      cases hq : Nat.beq m c && Nat.beq cs.length m && allData (cs.map AV.sym) <;> rw [hq] at hs <;> simp only [cond_true, cond_false, reduceCtorEq, Option.some.injEq, Prod.mk.injEq] at hs
      obtain ⟨rfl, rfl⟩ := hs
      simp only [Bool.and_eq_true, Nat.beq_eq] at hq
      have e1 := decL_eq h
      have e2 : cs.length = l.length := by have := congrArg List.length e1; simpa using this
      refine ⟨?_, by omega⟩
      rw [e1]
      have hd : ∀ x ∈ l.map τ.av, isData x = true := by
        intro x hx
        rw [← e1] at hx
        have : ∀ {xs : List AV}, allData xs = true → ∀ x ∈ xs, isData x = true := by
          intro xs
          induction xs with
          | nil => intro _ x hx; cases hx
          | cons y ys ih =>
            intro hy x hx
            simp only [allData, Bool.and_eq_true] at hy
            rcases List.mem_cons.1 hx with q | q
            · rw [q]; exact hy.1
            · exact ih hy.2 x q
        exact this hq.2 x hx
      clear e1 e2 hq h
      induction l with
      | nil => rfl
      | cons y l ih =>
        rw [List.map_cons, List.flatMap_cons, ih (fun x hx => hd x (by rw [List.map_cons]; exact List.mem_cons_of_mem _ hx))]
        have hy := hd (τ.av y) (by rw [List.map_cons]; exact List.mem_cons_self)
        have : τ.enc y = [τ.av y] := by cases τ <;> first | rfl | (simp [Ty.av, isData] at hy)
        rw [this]; rfl
    · cases h
  · have h := Option.some.inj h; subst h
    simp only [srcOf, Option.some.injEq, Prod.mk.injEq] at hs; obtain ⟨rfl, rfl⟩ := hs
    exact ⟨rfl, rfl⟩
  · cases h
def decMany (τ : Ty) : Nat → List AV → Option (List τ.den)
  | 0, [] => some []
  | n + 1, cs => match τ.dec cs with
    | some (d, r) => match decMany τ n r with
      | some ds => some (d :: ds)
      | none => none
    | none => none
  | _, _ => none
omit [LC] in
theorem decMany_seen {τ : Ty} : ∀ {n : Nat} {cs : List AV} {l : List τ.den}, decMany τ n cs = some l → SeenD cs (l.flatMap τ.enc) ∧ l.length = n
  | 0, [], l, h => by have h := Option.some.inj h; subst h; exact ⟨⟨fun _ => rfl, [], rfl, trivial⟩, rfl⟩
  | 0, _ :: _, l, h => by cases h
  | n + 1, cs, l, h => by
    simp only [decMany] at h
    split at h
    · rename_i d r hd
      split at h
      · rename_i ds hds
        have h := Option.some.inj h; subst h
        obtain ⟨pre, rfl, hs⟩ := dec_seen hd
        obtain ⟨h1, h2⟩ := decMany_seen hds
        exact ⟨hs.append h1, by simp [h2]⟩
      · cases h
    · cases h
/-- what is known: calls; the types of elements -/
structure Tb : Type 1 where
  ents : List Ent
  ety : List (Nat × Ty)
  /-- parts of own slices are seen as such -/
  sub : Bool
def nilN : NM → Bool
  | [] => true
  | _ => false
def nilB : List (Nat × BPt) → Bool
  | [] => true
  | _ => false
def keyIs (f : FuncId) : Key → Bool
  | .fn f' => Nat.beq f' f
  | _ => false
def callQ (s : St) (f : FuncId) (xs : List AV) (e : Ent) : Option Rq :=
  bif keyIs f e.key && nilB e.hp && (!(hasOwn xs) || e.out.rows) then
    match Pts.get e.args (lends s.hp xs) [] with
    | some (d, nm) => match bget s.hp e.hp nm with
      | some (d', nm') => bif nilN nm' then some (.bnd (e.F d d') (e.out.sp fun r hp' => .res (hasOwn xs) (Pts.put e.args d) r hp')) else none
      | none => none
    | none => none
  else none
/-- the names in the order of the entry -/
def order (nm : NM) : List (Nat × BPt) → NM
  | [] => []
  | (n, _) :: r => match lookN nm n with
    | some m => (n, m) :: order nm r
    | none => order nm r
def memQ (s : St) (ys : List AV) (nm0 : NM) (e : Ent) : Option Rq :=
  match Pts.get e.args ys nm0 with
  | some (d, nm) => match bget s.hp e.hp nm with
    | some (d', nm') => bif distinctOld (order nm' e.hp) && allIn nm' e.hp then
        some (.bnd (e.F d d') (e.out.sp fun r hp' => .mem (order nm' e.hp) (Pts.put e.args d) (bput e.hp d') r hp')) else none
    | none => none
  | none => none
def callMQ (s : St) (f : FuncId) (ys : List AV) (e : Ent) : Option Rq := bif keyIs f e.key then memQ s ys [] e else none
def yldQ (s : St) (m : Nat) (ys : List AV) (e : Ent) : Option Rq := match e.key with
  | .yld m' => memQ s ys [(m', m)] e
  | _ => none
def firstQ (g : Ent → Option Rq) : List Ent → Option Rq
  | [] => none
  | e :: es => match g e with
    | some q => some q
    | none => firstQ g es
def appQ (P : Program) (tb : Tb) (s : St) (t : TypeId) (x y : AV) : Option Rq :=
  match x with
  | .own k => match look s.hp k with
    | some (.row τ l E) => match lstOf s τ y with
      | some m => some (.ifb (decide ((l ++ m).length ≤ rowMax)) (.row (.row τ (l ++ m) E)))
      | none => none
    | _ => none
  | _ => match P.underlying t with
    | some (.slice E) => match look tb.ety E with
      | some τ => match lstOf s τ y with
        | some m => some (.ifb (decide (m.length ≤ rowMax)) (.row (.row τ m E)))
        | none => none
      | none => none
    | _ => none
def sliceQ (P : Program) (tb : Tb) (s : St) (t : TypeId) (len : Nat) (parts : List (Nat × Operand)) : Option Rq :=
  match P.underlying t with
  | some (.slice E) => match look tb.ety E, tSize P E, aparts s parts with
    | none, _, _ => some (.tot (.b true))
    | some τ, some sz, some ps => match afill (fun i => some (i * sz, sz)) (undefs (len * sz)) ps with
      | some cs => match decMany τ len cs with
        | some l => some (.tot (.row (.row τ l E)))
        | none => none
      | none => none
    | _, _, _ => none
  | _ => none
/-- a store into an element of an own slice -/
def storeQ (s : St) (k i off : Nat) (v : AV) : Option Rq := match look s.hp k with
  | some (.row τ l E) => bif Nat.ble (off + v.cells.length) τ.sz then
      some (.bnd l[i]? (.one fun x => match τ.dec (splice (τ.enc x) off v.cells) with
        | some (y, []) => .put (((τ.enc y).drop off).take v.cells.length) (.row τ (l.set i y) E)
        | _ => .none))
    else none
  | _ => none
def areqN (P : Program) (tb : Tb) (s : St) (op : Op) : Option Rq :=
  match op with
  | .alloc _ => some (.tot .none)
  | .box _ _ => some (.tot .none)
  | .buildSlice t len parts => sliceQ P tb s t len parts.toList
  | .convert _ _ x => match s.ev x with
    | some (.str b) => some (.ifb (decide (b.length ≤ maxLen)) .none)
    | _ => none
  | .store _ x y => match s.ev x with
    | some (.ptr _ _) => some (.tot .none)
    | some (.oel k _ i off) => match s.ev y with
      | some v => storeQ s k i off v
      | none => none
    | _ => none
  | .call { callee := .builtin .append, args, argTypes } => match args.toList, argTypes.toList with
    | [x, y], [t, _] => match s.ev x, s.ev y with
      | some a, some b => appQ P tb s t a b
      | _, _ => none
    | _, _ => none
  | .call { callee := .value g, args, argTypes := _ } => match s.ev g, s.evs args.toList with
    | some (.fn (.func f) [] cap), some xs => match firstQ (callQ s f (xs ++ cap)) tb.ents with
      | some q => some q
      | none => firstQ (callMQ s f (xs ++ cap)) tb.ents
    | some (.yld m), some ys => firstQ (yldQ s m ys) tb.ents
    | _, _ => none
  | _ => none
/-- the operation leaves memory as it is -/
def isVal (P : Program) : Op → Bool
  | .alloc _ => false
  | .box _ _ => false
  | .buildSlice _ _ _ => false
  | .store _ _ _ => false
  | .convert _ dst _ => match P.underlying dst with
    | some (.slice _) => false
    | _ => true
  | .call { callee := .builtin .append, args := _, argTypes := _ } => false
  | .call { callee := .value _, args := _, argTypes := _ } => false
  | _ => true
def areq (P : Program) (tb : Tb) (s : St) (op : Op) : Option Rq := bif isVal P op then areqV P s op else areqN P tb s op
end Go.Sym
/- Operations that make or change memory: what they ask for is enough. -/
namespace Go.Sym
open Go.RowKit
variable [LC]

omit [LC] in
theorem lends_eq {hp : List (Nat × Box)} : ∀ {xs : List AV}, hasOwn xs = false → lends hp xs = xs
  | [], _ => rfl
  | x :: xs, h => by
    simp only [hasOwn, Bool.or_eq_false_iff] at h
    simp only [lends, lends_eq h.2]
    cases x <;> first | rfl | cases h.1
omit [LC] in
theorem nilN_eq {nm : NM} (h : nilN nm = true) : nm = [] := by cases nm with
  | nil => rfl
  | cons _ _ => cases h
omit [LC] in
theorem bput_nil : ∀ {l : List (Nat × BPt)} {d : bden l}, nilB l = true → bput l d = []
  | [], _, _ => rfl
  | _ :: _, _, h => by cases h
omit [LC] in
theorem keyIs_eq {f : FuncId} {k : Key} (h : keyIs f k = true) : k = .fn f := by
  cases k with
  | fn f' => rw [Nat.eq_of_beq_eq_true (show Nat.beq f' f = true from h)]
  | yld _ => cases h
  | ext _ => cases h
omit [LC] in
theorem firstQ_mem {g : Ent → Option Rq} : ∀ {es : List Ent} {q : Rq}, firstQ g es = some q → ∃ e ∈ es, g e = some q
  | [], _, h => by cases h
  | e :: es, q, h => by
    simp only [firstQ] at h
    split at h
    · rename_i q' hq
      have h := Option.some.inj h; subst h
      exact ⟨e, List.mem_cons_self, hq⟩
    · obtain ⟨e', h1, h2⟩ := firstQ_mem h
      exact ⟨e', List.mem_cons_of_mem _ h1, h2⟩
/-- a call that sees data -/
theorem callQ_ok {P : Program} {s : St} {f : FuncId} {xs : List AV} {e : Ent} {q : Rq} {d : D} (he : e.Sound P) (h : callQ s f xs e = some q) (ho : q.Out d) :
    ∃ b ys r hp' ps, d = .res b ys r hp' ∧ vws b s.hp xs ys = some ps ∧ Alls ps ∧ Plain P f ∧ CallsTo P f ys [] r hp' ∧ (b = true → Alls (noRefHp hp')) := by
  unfold callQ at h
  cases hk : keyIs f e.key && nilB e.hp && (!(hasOwn xs) || e.out.rows) <;> rw [hk] at h <;> simp only [cond_true, cond_false, reduceCtorEq] at h
  simp only [Bool.and_eq_true] at hk
  obtain ⟨⟨hk1, hk2⟩, hk3⟩ := hk
  split at h
  · rename_i x nm hg
    split at h
    · rename_i x' nm' hg'
      cases hn : nilN nm' <;> rw [hn] at h <;> simp only [cond_true, cond_false, reduceCtorEq, Option.some.injEq] at h
      subst h
      have hn := nilN_eq hn; subst hn
      obtain ⟨y, hy, hd⟩ := ho
      have hd := RS.sp_out hd
      have hs := he x x' y hy
      rw [keyIs_eq hk1] at hs
      simp only at hs
      rw [bput_nil hk2] at hs
      have hseen := (Pts.get_seen hg).2 [] rfl (fun n m hh => by have := (bget_seen hg').1 n m hh; cases this)
      have key : ∃ ps, vws (hasOwn xs) s.hp xs (Pts.put e.args x) = some ps ∧ Alls ps := by
        cases hb : hasOwn xs
        · rw [lends_eq hb] at hseen
          obtain ⟨ps, h1, h2⟩ := hseen
          exact vws_bare noIfs_put h1 h2
        · exact vws_lend noIfs_put hseen
      obtain ⟨ps, k1, k2⟩ := key
      refine ⟨hasOwn xs, Pts.put e.args x, _, _, ps, hd, k1, k2, hs.1, hs.2, fun hb => ?_⟩
      rw [hb] at hk3
      exact RS.rows_ok (by simpa using hk3)
    · cases h
  · cases h
omit [LC] in
theorem order_look {nm : NM} : ∀ {l : List (Nat × BPt)} {n m : Nat}, lookN nm n = some m → (∃ e ∈ l, e.1 = n) → lookN (order nm l) n = some m
  | [], n, m, _, ⟨e, he, _⟩ => by cases he
  | (k, p) :: r, n, m, h, ⟨e, he, hn⟩ => by
    simp only [order]
    cases hq : Nat.beq k n
    · have hr : ∃ e ∈ r, e.1 = n := by
        rcases List.mem_cons.1 he with rfl | he
        · simp only at hn; subst hn; simp at hq
        · exact ⟨e, he, hn⟩
      split
      · simp only [lookN, hq, cond_false]; exact order_look h hr
      · exact order_look h hr
    · have := Nat.eq_of_beq_eq_true hq; subst this
      rw [h]; simp [lookN]
omit [LC] in
theorem bget_view {hp : List (Nat × Box)} {N M : NM} (hN : distinctOld N = true) : ∀ {l : List (Nat × BPt)} {nm nm' : NM} {d : bden l}, bget hp l nm = some (d, nm') → SubN nm' M → SubN nm' N → ∀ {hpv : List (Nat × Box)} {ps : List Prop},
    viewHp (rho N) hp (order M l) = some hpv → vwHp hpv (bput l d) = some ps → Alls ps
  | [], nm, nm', d, h, _, _, hpv, ps, hv, hw => by
    simp only [order, viewHp, Option.some.injEq] at hv; subst hv
    have := Option.some.inj (show some [] = some ps from hw); subst this; trivial
  | (j, p) :: r, nm, nm', d, h, hM, hS, hpv, ps, hv, hw => by
    have h : (match lookN nm j with
      | some old => match look hp old with
        | some b => match p.get b nm with
          | some (d, nm') => match bget hp r nm' with
            | some (ds, nm'') => some ((d, ds), nm'')
            | none => none
          | none => none
        | none => none
      | none => none) = some (d, nm') := h
    split at h
    · rename_i old ho
      split at h
      · rename_i b hb
        split at h
        · rename_i d1 nm1 h1
          split at h
          · rename_i d2 nm2 h2
            simp only [Option.some.injEq] at h; obtain ⟨rfl, rfl⟩ := h
            obtain ⟨a1, a2⟩ := BPt.get_seen h1
            obtain ⟨b1, _⟩ := bget_seen h2
            have hj : lookN M j = some old := hM _ _ (b1 _ _ (a1 _ _ ho))
            simp only [order, hj, viewHp, hb] at hv
            split at hv
            · rename_i b' l' e1 e2
              simp only [Option.some.injEq] at e1 hv; subst e1 hv
              have hw : (bif Nat.beq j j then (match vwB (renB (rho N) b) (p.put d1), vwHp l' (bput r d2) with
                | some ps, some qs => some (ps ++ qs)
                | _, _ => none) else none) = some ps := hw
              rw [show Nat.beq j j = true by simp] at hw
              simp only [cond_true] at hw
              split at hw
              · rename_i p1 p2 w1 w2
                have := Option.some.inj hw; subst this
                obtain ⟨p1', s1, s2⟩ := a2 N hN (b1.trans hS)
                rw [w1] at s1; have := Option.some.inj s1; subst this
                exact Alls_append.2 ⟨s2, bget_view hN h2 hM hS e2 w2⟩
              · cases hw
            · cases hv
          · cases h
        · cases h
      · cases h
    · cases h
omit [LC] in
/-- a call that sees own memory -/
theorem memQ_ok {s : St} {ys : List AV} {nm0 : NM} {e : Ent} {q : Rq} {d : D} (h : memQ s ys nm0 e = some q) (ho : q.Out d) :
    ∃ N x x' y, e.F x x' = some y ∧ d = .mem N (Pts.put e.args x) (bput e.hp x') (e.out.res y).1 (e.out.res y).2 ∧ distinctOld N = true ∧ SubN nm0 N ∧
      (∀ ps, vws false [] (AV.rens (rho N) ys) (Pts.put e.args x) = some ps → Alls ps) ∧ ∀ hpv ps, viewHp (rho N) s.hp N = some hpv → vwHp hpv (bput e.hp x') = some ps → Alls ps := by
  unfold memQ at h
  split at h
  · rename_i x nm hg
    split at h
    · rename_i x' nm' hg'
      cases hk : distinctOld (order nm' e.hp) && allIn nm' e.hp <;> rw [hk] at h <;> simp only [cond_true, cond_false, reduceCtorEq, Option.some.injEq] at h
      subst h
      simp only [Bool.and_eq_true] at hk
      obtain ⟨y, hy, hd⟩ := ho
      have hsub : SubN nm' (order nm' e.hp) := fun n m hh => order_look hh (allIn_spec hk.2 n m hh)
      obtain ⟨g1, g2⟩ := Pts.get_seen hg
      obtain ⟨g1', _⟩ := bget_seen hg'
      refine ⟨order nm' e.hp, x, x', y, hy, RS.sp_out hd, hk.1, g1.trans (g1'.trans hsub), fun ps hv => ?_, fun hpv ps hv hw => bget_view hk.1 hg' (SubN.refl _) hsub hv hw⟩
      obtain ⟨ps', h1, h2⟩ := g2 _ hk.1 (g1'.trans hsub)
      rw [hv] at h1; have := Option.some.inj h1; subst this; exact h2
    · cases h
  · cases h
omit [LC] in
theorem memCall_ok {s s' : St} {q : Prop} {ys xs : List AV} {names : List (Nat × Nat)} {hp hp' : List (Nat × Box)} {r : AV} {t : Nat} {ps : List Prop} (h : memCall s q ys names xs hp r hp' t = some (ps, s')) (hq : q)
    (h1 : ∀ ps, vws false [] (AV.rens (rho names) ys) xs = some ps → Alls ps) (h2 : ∀ hpv ps, viewHp (rho names) s.hp names = some hpv → vwHp hpv hp = some ps → Alls ps) : Alls ps := by
  unfold memCall at h
  cases hb : distinctOld names && distinctNew names && noRange (s.nx + 16 * t) s.hp && Nat.blt t s.n <;> rw [hb] at h <;> simp only [cond_true, cond_false, reduceCtorEq] at h
  split at h
  · rename_i hpv ps1 e1 e2
    split at h
    · rename_i ps2 e3
      simp only [Option.some.injEq, Prod.mk.injEq] at h; obtain ⟨rfl, _⟩ := h
      exact ⟨hq, Alls_append.2 ⟨h1 _ e2, h2 _ _ e1 e3⟩⟩
    · cases h
  · cases h
omit [LC] in
theorem isVal_none {P : Program} {s : St} {d : D} {op : Op} (h : isVal P op = false) : aval P s d op = none := by
  unfold isVal at h
  split at h <;> first
    | rfl
    | cases h
    | (split at h
       · rename_i src dst x _ E hE
         simp only [aval, hE]
         have hc : ∀ v, aConv P dst v = none := fun v => by
           unfold aConv
           rw [hE]
         have hc' : ∀ v, aConvC P dst v = none := fun v => by
           unfold aConvC
           split
           · rw [hc]
           · rw [hc]
         cases P.underlying src <;> cases s.ev x <;> simp [hc']
       · cases h)
end Go.Sym
/- What an operation asks for is enough. -/
namespace Go.Sym
open Go.RowKit
variable [LC]

theorem isVal_new {P : Program} {s : St} {d : D} {o : Oper} (h : isVal P o.op = true) : anew P s d o = none := by
  obtain ⟨dst, op, ty, pos, after, guard⟩ := o
  simp only at h
  cases hA : anew P s d ⟨dst, op, ty, pos, after, guard⟩ with
  | none => rfl
  | some R =>
    exfalso
    unfold anew at hA
    split at hA
    · rename_i e _; simp only at e; subst e; cases h
    · rename_i e _; simp only at e; subst e; cases h
    · rename_i e _; simp only at e; subst e; cases h
    · rename_i e _; simp only at e; subst e; cases h
    · rename_i e _; simp only at e; subst e; cases h
    · rename_i e _; simp only at e; subst e
      split at hA
      · rename_i e2 _; simp only [isVal, e2] at h; cases h
      · cases hA
    · cases hA
theorem isVal_mod {P : Program} {s : St} {d : D} {o : Oper} (h : isVal P o.op = true) : amod P s d o = none := by
  obtain ⟨dst, op, ty, pos, after, guard⟩ := o
  simp only at h
  cases hA : amod P s d ⟨dst, op, ty, pos, after, guard⟩ with
  | none => rfl
  | some R =>
    exfalso
    unfold amod at hA
    split at hA
    · rename_i e; simp only at e; subst e; cases h
    · rename_i e; simp only at e; subst e; cases h
    · rename_i e; simp only at e; subst e; cases h
    · cases hA
omit [LC] in
theorem appQ_nil {P : Program} {tb : Tb} {s : St} {t t2 : TypeId} {y : AV} {q : Rq} {d : D} {ps : List Prop} {b : Box} (h : appQ P tb s t (.val (.slice none 0 0)) y = some q) (ho : q.Out d) (ha : aAppend P s d t t2 [] 0 y = some (ps, b)) : Alls ps := by
  unfold appQ at h
  simp only at h
  unfold aAppend at ha
  split at h
  · rename_i E hE
    split at h
    · rename_i τ hτ
      split at h
      · rename_i m hm
        have h := Option.some.inj h; subst h
        obtain ⟨h1, rfl⟩ := ho
        simp only [hE] at ha
        split at ha
        · rename_i sz flat n e1 e2
          obtain ⟨k1, k2⟩ := lstOf_src hm e2
          cases hq : Nat.beq τ.sz sz && Nat.beq E E && zeroFine P E && notInt P t2 <;> rw [hq] at ha <;> simp only [cond_true, cond_false, reduceCtorEq, Option.some.injEq, Prod.mk.injEq] at ha
          obtain ⟨rfl, _⟩ := ha
          exact ⟨by rw [k1]; rfl, by omega, of_decide_eq_true h1, trivial⟩
        · cases ha
      · cases h
    · cases h
  · cases h
omit [LC] in
theorem appQ_own {P : Program} {tb : Tb} {s : St} {t t2 : TypeId} {k : Nat} {τ0 : Ty} {l0 : List τ0.den} {E0 : TypeId} {y : AV} {q : Rq} {d : D} {ps : List Prop} {b : Box} (hk : look s.hp k = some (.row τ0 l0 E0)) (h : appQ P tb s t (.own k) y = some q) (ho : q.Out d) (ha : aAppend P s d t t2 (l0.flatMap τ0.enc) l0.length y = some (ps, b)) : Alls ps := by
  unfold appQ at h
  simp only [hk] at h
  unfold aAppend at ha
  split at h
  · rename_i m hm
    have h := Option.some.inj h; subst h
    obtain ⟨h1, rfl⟩ := ho
    split at ha
    · rename_i E _ _ _ e0 ed
      simp only [D.row.injEq, Box.row.injEq] at ed
      obtain ⟨rfl, ed, rfl⟩ := ed
      have ed := eq_of_heq ed; subst ed
      split at ha
      · rename_i sz flat n e1 e2
        obtain ⟨k1, k2⟩ := lstOf_src hm e2
        cases hq : Nat.beq τ0.sz sz && Nat.beq E E0 && zeroFine P E && notInt P t2 <;> rw [hq] at ha <;> simp only [cond_true, cond_false, reduceCtorEq, Option.some.injEq, Prod.mk.injEq] at ha
        obtain ⟨rfl, _⟩ := ha
        exact ⟨by rw [k1, List.flatMap_append], by rw [k2, List.length_append], of_decide_eq_true h1, trivial⟩
      · cases ha
    · cases ha
  · cases h
theorem areqN_new {P : Program} {tb : Tb} {s : St} {o : Oper} {q : Rq} {d : D} {ps : List Prop} {v : AV} {new : List (Nat × Box)} (hT : ∀ e ∈ tb.ents, e.Sound P) (hv : isVal P o.op = false) (h : areqN P tb s o.op = some q) (ho : q.Out d) (ha : anew P s d o = some (ps, v, new)) : Alls ps := by
  obtain ⟨dst, op, ty, pos, after, guard⟩ := o
  simp only at h hv
  have cnd : ∀ {b : Bool} {x : AV} {y : List (Nat × Box)} {ps0 ps : List Prop} {v : AV} {new : List (Nat × Box)}, (bif b then some (ps0, x, y) else none) = some (ps, v, new) → Alls ps0 → Alls ps := fun {b} _ _ _ _ _ _ e k => by
    cases b
    · cases e
    · simp only [cond_true, Option.some.injEq, Prod.mk.injEq] at e; obtain ⟨rfl, _⟩ := e; exact k
  unfold anew at ha
  split at ha
  · split at ha
    · exact cnd ha trivial
    · cases ha
  · split at ha
    · exact cnd ha trivial
    · cases ha
  · rename_i g args ats t e _
    simp only at e; subst e
    split at ha
    · rename_i f cap xs b xs' r hp' e1 e2
      split at ha
      · rename_i ps1 hps
        refine cnd ha ?_
        simp only [areqN, e1, e2] at h
        have key : ∀ e ∈ tb.ents, callQ s f (xs ++ cap) e = some q → Alls (Plain P f :: CallsTo P f xs' [] r hp' :: (ps1 ++ (bif b then noRefHp hp' else []))) := fun e he hc => by
          obtain ⟨b1, ys, r1, hp1, ps2, k1, k2, k3, k4, k5, k6⟩ := callQ_ok (hT e he) hc ho
          simp only [D.res.injEq] at k1
          obtain ⟨rfl, rfl, rfl, rfl⟩ := k1
          rw [hps] at k2; have := Option.some.inj k2; subst this
          refine ⟨k4, k5, Alls_append.2 ⟨k3, ?_⟩⟩
          cases b
          · trivial
          · exact k6 rfl
        split at h
        · rename_i q' hq
          have h := Option.some.inj h; subst h
          obtain ⟨e, he, hc⟩ := firstQ_mem hq
          exact key e he hc
        · exfalso
          obtain ⟨e, he, hc⟩ := firstQ_mem h
          unfold callMQ at hc
          cases hk : keyIs f e.key <;> rw [hk] at hc <;> simp only [cond_true, cond_false, reduceCtorEq] at hc
          obtain ⟨N, x, x', y, _, k2, _⟩ := memQ_ok hc ho
          cases k2
      · cases ha
    · cases ha
  · rename_i args ats tt e _
    simp only at e; subst e
    split at ha
    · rename_i x y t t2 e1 e2
      split at ha
      · rename_i v' e3 e4
        split at ha
        · rename_i ps1 b e5
          refine cnd ha ?_
          simp only [areqN, e1, e2, e3, e4] at h
          exact appQ_nil h ho e5
        · cases ha
      · cases ha
    · cases ha
  · rename_i t len parts tt e _
    simp only at e; subst e
    split at ha
    · rename_i ps1 b e1
      refine cnd ha ?_
      simp only [areqN] at h
      unfold sliceQ at h
      unfold aBuildSlice at e1
      split at h
      · rename_i E hE
        split at h
        · have h := Option.some.inj h; subst h
          have ho : d = _ := ho
          subst ho
          simp [hE] at e1
        · rename_i τ sz ps2 i1 i2 i3
          split at h
          · rename_i cs hcs
            split at h
            · rename_i l hl
              have h := Option.some.inj h; subst h
              have ho : d = _ := ho
              subst ho
              simp only [hE, i2, i3, hcs] at e1
              cases hq : Nat.beq τ.sz sz && Nat.beq E E && zeroFine P E && Nat.ble (len * τ.sz) 16777216 && AV.ones cs <;> rw [hq] at e1 <;> simp only [cond_true, cond_false, reduceCtorEq] at e1
              obtain ⟨⟨j1, ps3, j2, j3⟩, j4⟩ := decMany_seen hl
              rw [j2] at e1
              simp only [Option.some.injEq, Prod.mk.injEq] at e1
              obtain ⟨rfl, _⟩ := e1
              exact Alls_append.2 ⟨j3, j4, j1 _, trivial⟩
            · cases h
          · cases h
        · cases h
      · cases h
    · split at ha
      · exact cnd ha trivial
      · cases ha
  · rename_i src dst x tt e _
    simp only at e; subst e
    split at ha
    · rename_i E b e1 e2 e3
      split at ha
      · refine cnd ha ?_
        simp only [areqN, e3, Option.some.injEq] at h; subst h
        exact ⟨of_decide_eq_true ho.1, trivial⟩
      · cases ha
    · cases ha
  · cases ha
omit [LC] in
theorem splice_right : ∀ (ys a b : List AV) (k : Nat), splice (a ++ b) (a.length + k) ys = a ++ splice b k ys
  | [], _, _, _ => rfl
  | y :: ys, a, b, k => by
    simp only [splice]
    rw [List.set_append_right _ _ (by omega), Nat.add_sub_cancel_left, Nat.add_assoc]
    exact splice_right ys a (b.set k y) (k + 1)
omit [LC] in
theorem splice_left : ∀ (ys a b : List AV) (k : Nat), k + ys.length ≤ a.length → splice (a ++ b) k ys = splice a k ys ++ b
  | [], _, _, _, _ => rfl
  | y :: ys, a, b, k, h => by
    simp only [List.length_cons] at h
    simp only [splice]
    rw [List.set_append_left _ _ (by omega)]
    exact splice_left ys (a.set k y) b (k + 1) (by rw [List.length_set]; omega)
omit [LC] in
theorem splice_get : ∀ (ys a : List AV) (k j : Nat), k + ys.length ≤ a.length → (splice a k ys)[j]? = if k ≤ j ∧ j < k + ys.length then ys[j - k]? else a[j]?
  | [], a, k, j, _ => by simp only [splice, List.length_nil]; rw [if_neg (by omega)]
  | y :: ys, a, k, j, h => by
    simp only [List.length_cons] at h
    simp only [splice]
    rw [splice_get ys (a.set k y) (k + 1) j (by rw [List.length_set]; omega)]
    simp only [List.length_cons]
    by_cases h1 : k + 1 ≤ j ∧ j < k + 1 + ys.length
    · rw [if_pos h1, if_pos (by omega), show j - k = (j - (k + 1)) + 1 by omega]; simp
    · rw [if_neg h1]
      by_cases h2 : j = k
      · subst h2; rw [if_pos (by omega)]; simp [show j < a.length by omega]
      · rw [if_neg (by omega), List.getElem?_set_ne (by omega)]
omit [LC] in
theorem splice_row {τ : Ty} {y : τ.den} {ys : List AV} {off : Nat} : ∀ {l : List τ.den} {i : Nat} {x : τ.den}, l[i]? = some x → off + ys.length ≤ τ.sz → τ.enc y = splice (τ.enc x) off ys → (l.set i y).flatMap τ.enc = splice (l.flatMap τ.enc) (i * τ.sz + off) ys
  | [], _, _, h, _, _ => by simp at h
  | z :: l, 0, x, h, ho, he => by
    simp only [List.getElem?_cons_zero, Option.some.injEq] at h; subst h
    simp only [List.set_cons_zero, List.flatMap_cons, Nat.zero_mul, Nat.zero_add]
    rw [splice_left _ _ _ _ (by rw [τ.enc_length]; exact ho), he]
  | z :: l, i + 1, x, h, ho, he => by
    simp only [List.getElem?_cons_succ] at h
    simp only [List.set_cons_succ, List.flatMap_cons]
    rw [show (i + 1) * τ.sz + off = (τ.enc z).length + (i * τ.sz + off) by rw [τ.enc_length, Nat.succ_mul]; omega, splice_right, splice_row h ho he]
omit [LC] in
theorem vws_get {b : Bool} {hp : List (Nat × Box)} : ∀ {xs ys : List AV} {ps : List Prop}, vws b hp xs ys = some ps → Alls ps → ∀ (j : Nat) (x y : AV), xs[j]? = some x → ys[j]? = some y → ∃ qs, vw b hp x y = some qs ∧ Alls qs
  | x :: xs, y :: ys, ps, h, hp, j, u, v, hu, hv => by
    simp only [vws] at h
    split at h
    · rename_i p1 h1
      split at h
      · rename_i p2 h2
        have := Option.some.inj h; subst this
        cases j with
        | zero => simp only [List.getElem?_cons_zero, Option.some.injEq] at hu hv; subst hu hv; exact ⟨p1, h1, (Alls_append.1 hp).1⟩
        | succ j => exact vws_get h2 (Alls_append.1 hp).2 j u v (by simpa using hu) (by simpa using hv)
      · cases h
    · cases h
  | [], [], _, _, _, j, _, _, hu, _ => by simp at hu
  | [], _ :: _, _, h, _, _, _, _, _, _ => by simp [vws] at h
  | _ :: _, [], _, h, _, _, _, _, _, _ => by simp [vws] at h
omit [LC] in
theorem vws_alls {b : Bool} {hp : List (Nat × Box)} : ∀ {xs ys : List AV} {ps : List Prop}, vws b hp xs ys = some ps → (∀ (j : Nat) (x y : AV), xs[j]? = some x → ys[j]? = some y → ∃ qs, vw b hp x y = some qs ∧ Alls qs) → Alls ps
  | x :: xs, y :: ys, ps, h, hq => by
    simp only [vws] at h
    split at h
    · rename_i p1 h1
      split at h
      · rename_i p2 h2
        have := Option.some.inj h; subst this
        obtain ⟨q1, e1, a1⟩ := hq 0 x y rfl rfl
        rw [h1] at e1; have := Option.some.inj e1; subst this
        exact Alls_append.2 ⟨a1, vws_alls h2 fun j u v hu hv => hq (j + 1) u v (by simpa using hu) (by simpa using hv)⟩
      · cases h
    · cases h
  | [], [], _, h, _ => by simp only [vws, Option.some.injEq] at h; subst h; trivial
  | [], _ :: _, _, h, _ => by simp [vws] at h
  | _ :: _, [], _, h, _ => by simp [vws] at h
omit [LC] in
theorem enc_data : ∀ {τ : Ty} {d : τ.den}, ∀ x ∈ τ.enc d, isData x = true
  | .int _, _, x, h => by simp only [Ty.enc, List.mem_singleton] at h; subst h; rfl
  | .byte, _, x, h => by simp only [Ty.enc, List.mem_singleton] at h; subst h; rfl
  | .bool, _, x, h => by simp only [Ty.enc, List.mem_singleton] at h; subst h; rfl
  | .str, _, x, h => by simp only [Ty.enc, List.mem_singleton] at h; subst h; rfl
  | .unit, _, x, h => by simp [Ty.enc] at h
  | .prod a b, d, x, h => by
    rcases List.mem_append.1 h with h | h
    · exact enc_data x h
    · exact enc_data x h
  | .list _, _, x, h => by simp only [Ty.enc, List.mem_singleton] at h; subst h; rfl
  | .tree a, d, x, h => by
    rcases List.mem_append.1 h with h | h
    · exact enc_data x h
    · simp only [List.mem_singleton] at h; subst h; rfl
omit [LC] in
theorem vw_data {x y : AV} (hx : isData x = true) (hy : isData y = true) {qs : List Prop} (h : vw false [] x y = some qs) (hq : Alls qs) : y = x := by
  cases x <;> first | cases hx | skip
  all_goals (cases y <;> first | cases hy | skip)
  all_goals (have := Option.some.inj h; subst this; exact hq.1)
omit [LC] in
theorem rens_get {ρ : Nat → Option Nat} : ∀ {xs : List AV} {j : Nat}, (AV.rens ρ xs)[j]? = (xs[j]?).map (AV.ren ρ)
  | [], j => by simp [AV.rens]
  | x :: xs, 0 => by simp [AV.rens]
  | x :: xs, j + 1 => by simp only [AV.rens, List.getElem?_cons_succ]; exact rens_get
omit [LC] in
theorem storeQ_ok {τ : Ty} {l : List τ.den} {i off : Nat} {x y : τ.den} {c : List AV} {ps : List Prop} (ho : off + c.length ≤ τ.sz) (hx : l[i]? = some x) (hd : τ.dec (splice (τ.enc x) off c) = some (y, []))
    (hv : vws false [] c (((τ.enc y).drop off).take c.length) = some ps) :
    Alls (ps ++ [i * τ.sz + off + c.length ≤ l.length * τ.sz, (l.set i y).flatMap τ.enc = splice (l.flatMap τ.enc) (i * τ.sz + off) (((τ.enc y).drop off).take c.length), (l.set i y).length = l.length, AV.rens (fun _ => none) c = c]) := by
  obtain ⟨pre, e1, hr, qs, hq1, hq2⟩ := dec_seen hd
  simp only [List.append_nil] at e1
  subst e1
  have hle : off + c.length ≤ (τ.enc x).length := by rw [τ.enc_length]; exact ho
  have hlen : (((τ.enc y).drop off).take c.length).length = c.length := by simp [τ.enc_length]; omega
  have hseg : ∀ (j : Nat) (z u : AV), c[j]? = some z → (((τ.enc y).drop off).take c.length)[j]? = some u → ∃ qs, vw false [] z u = some qs ∧ Alls qs := fun j z u h1 h2 => by
    have hj : j < c.length := (List.getElem?_eq_some_iff.1 h1).1
    refine vws_get hq1 hq2 (off + j) z u ?_ ?_
    · rw [splice_get _ _ _ _ hle, if_pos (by omega), Nat.add_sub_cancel_left]; exact h1
    · rw [List.getElem?_take, if_pos hj, List.getElem?_drop] at h2; exact h2
  have he : τ.enc y = splice (τ.enc x) off (((τ.enc y).drop off).take c.length) := by
    apply List.ext_getElem?
    intro j
    rw [splice_get _ _ _ _ (by rw [hlen]; exact hle), hlen]
    by_cases hj : off ≤ j ∧ j < off + c.length
    · rw [if_pos hj, List.getElem?_take, if_pos (by omega), List.getElem?_drop, show off + (j - off) = j by omega]
    · rw [if_neg hj]
      cases hz : (τ.enc x)[j]? with
      | none =>
        have := List.getElem?_eq_none_iff.1 hz
        rw [τ.enc_length] at this
        exact List.getElem?_eq_none_iff.2 (by rw [τ.enc_length]; exact this)
      | some z =>
        have hjl : j < τ.sz := by have := (List.getElem?_eq_some_iff.1 hz).1; rwa [τ.enc_length] at this
        have hu : ∃ u, (τ.enc y)[j]? = some u := ⟨_, List.getElem?_eq_getElem (by rw [τ.enc_length]; exact hjl)⟩
        obtain ⟨u, hu⟩ := hu
        obtain ⟨q, q1, q2⟩ := vws_get hq1 hq2 j z u (by rw [splice_get _ _ _ _ hle, if_neg hj]; exact hz) hu
        rw [hu, vw_data (enc_data z (List.mem_of_getElem? hz)) (enc_data u (List.mem_of_getElem? hu)) q1 q2]
  refine Alls_append.2 ⟨vws_alls hv hseg, ?_, splice_row hx (by rw [hlen]; exact ho) he, by simp, ?_, trivial⟩
  · have hi : i < l.length := (List.getElem?_eq_some_iff.1 hx).1
    have : (i + 1) * τ.sz ≤ l.length * τ.sz := Nat.mul_le_mul_right _ hi
    rw [Nat.succ_mul] at this
    omega
  · apply List.ext_getElem?
    intro j
    have h := congrArg (fun l => l[off + j]?) (hr (fun _ => none))
    simp only [rens_get] at h ⊢
    by_cases hj : j < c.length
    · rw [splice_get _ _ _ _ hle, if_pos (by omega), Nat.add_sub_cancel_left] at h; exact h
    · rw [List.getElem?_eq_none_iff.2 (by omega)]; rfl
theorem areqN_mod {P : Program} {tb : Tb} {s : St} {o : Oper} {q : Rq} {d : D} {ps : List Prop} {s' : St} (hT : ∀ e ∈ tb.ents, e.Sound P) (h : areqN P tb s o.op = some q) (ho : q.Out d) (ha : amod P s d o = some (ps, s')) : Alls ps := by
  obtain ⟨dst, op, ty, pos, after, guard⟩ := o
  simp only at h
  have cnd : ∀ {b : Bool} {x : St} {ps : List Prop} {s' : St}, (bif b then some (([] : List Prop), x) else none) = some (ps, s') → Alls ps := fun {b} _ _ _ e => by
    cases b
    · cases e
    · simp only [cond_true, Option.some.injEq, Prod.mk.injEq] at e; obtain ⟨rfl, _⟩ := e; trivial
  unfold amod at ha
  split at ha
  · rename_i t x y e
    simp only at e; subst e
    split at ha
    · split at ha
      · exact cnd ha
      · cases ha
    · rename_i k sz i off v n e1 e2 e3 _
      split at ha
      · rename_i τ0 l0 E0 ys τ l E e4
        simp only [areqN, e1, e2, storeQ, e4] at h
        cases hbb : Nat.ble (off + v.cells.length) τ0.sz <;> rw [hbb] at h <;> simp only [cond_true, cond_false, reduceCtorEq, Option.some.injEq] at h
        subst h
        obtain ⟨x0, hx0, hd⟩ := ho
        simp only [Sp.Out] at hd
        split at hd
        · rename_i y0 hdec
          simp only [D.put.injEq, Box.row.injEq] at hd
          obtain ⟨rfl, rfl, hl, rfl⟩ := hd
          have hl := eq_of_heq hl
          subst hl
          cases hb : Nat.beq v.cells.length n && AV.ones v.cells && Nat.beq sz τ.sz && Nat.beq τ.sz τ.sz && Nat.beq E E <;> rw [hb] at ha <;> simp only [cond_true, cond_false, reduceCtorEq] at ha
          simp only [Bool.and_eq_true] at hb
          obtain ⟨⟨⟨⟨b1, _⟩, b3⟩, _⟩, _⟩ := hb
          have b1 := Nat.eq_of_beq_eq_true b1
          have b3 := Nat.eq_of_beq_eq_true b3
          subst b1 b3
          split at ha
          · rename_i ps1 hvs
            simp only [Option.some.injEq, Prod.mk.injEq] at ha
            obtain ⟨rfl, _⟩ := ha
            exact storeQ_ok (Nat.le_of_ble_eq_true hbb) hx0 hdec hvs
          · cases ha
        · cases hd
      · cases ha
    · cases ha
  · rename_i args ats e
    simp only at e; subst e
    split at ha
    · rename_i x y t t2 tt e1 e2 _
      split at ha
      · rename_i k v e3 e4
        split at ha
        · rename_i τ0 l0 E0 e5
          split at ha
          · rename_i ps1 τ l E e6
            simp only [areqN, e1, e2, e3, e4] at h
            cases hb : noRange (s.nx + 16 * tt) s.hp && Nat.beq τ.sz τ0.sz && Nat.beq E E0 && Nat.blt tt s.n <;> rw [hb] at ha <;> simp only [cond_true, cond_false, reduceCtorEq, Option.some.injEq, Prod.mk.injEq] at ha
            obtain ⟨rfl, _⟩ := ha
            exact appQ_own e5 h ho e6
          · cases ha
        · cases ha
      · cases ha
    · cases ha
  · rename_i g args ats e
    simp only at e; subst e
    split at ha
    · rename_i f cap ys names xs hp r hp' t e1 e2 e3
      simp only [areqN, e1, e2] at h
      split at h
      · rename_i q' hq
        have h := Option.some.inj h; subst h
        obtain ⟨e, he, hc⟩ := firstQ_mem hq
        obtain ⟨b1, ys1, r1, hp1, ps2, k1, _⟩ := callQ_ok (hT e he) hc ho
        cases k1
      · obtain ⟨e, he, hc⟩ := firstQ_mem h
        unfold callMQ at hc
        cases hk : keyIs f e.key <;> rw [hk] at hc <;> simp only [cond_true, cond_false, reduceCtorEq] at hc
        obtain ⟨N, x, x', y, k1, k2, k3, k4, k5, k6⟩ := memQ_ok hc ho
        simp only [D.mem.injEq] at k2
        obtain ⟨rfl, rfl, rfl, rfl, rfl⟩ := k2
        have hs := hT e he x x' y k1
        rw [keyIs_eq hk] at hs
        exact memCall_ok ha hs k5 k6
    · rename_i m ys names xs hp r hp' t e1 e2 e3
      simp only [areqN, e1, e2] at h
      obtain ⟨e, he, hc⟩ := firstQ_mem h
      unfold yldQ at hc
      split at hc
      · rename_i m' hm'
        obtain ⟨N, x, x', y, k1, k2, k3, k4, k5, k6⟩ := memQ_ok hc ho
        simp only [D.mem.injEq] at k2
        obtain ⟨rfl, rfl, rfl, rfl, rfl⟩ := k2
        have hs := hT e he x x' y k1
        rw [hm'] at hs
        have hr : rho names m = some m' := rho_of k3 (k4 _ _ (by simp [lookN]))
        simp only [hr] at ha
        exact memCall_ok ha hs k5 k6
      · cases hc
    · cases ha
  · cases ha
theorem areq_ok {P : Program} {tb : Tb} {s : St} {o : Oper} {q : Rq} {d : D} {ps : List Prop} {s' : St} (hT : ∀ e ∈ tb.ents, e.Sound P) (h : areq P tb s o.op = some q) (ho : q.Out d) (ha : aex P s d o = some (ps, s')) : Alls ps := by
  unfold areq at h
  unfold aex at ha
  cases hv : isVal P o.op <;> rw [hv] at h <;> simp only [cond_true, cond_false] at h
  · split at ha
    · rename_i ps' v new e
      unfold aadd at e
      rw [isVal_none hv] at e
      split at ha
      · simp only [Option.some.injEq, Prod.mk.injEq] at ha; obtain ⟨rfl, _⟩ := ha
        exact areqN_new hT hv h ho e
      · cases ha
    · exact areqN_mod hT h ho ha
  · split at ha
    · rename_i ps' v new e
      unfold aadd at e
      split at e
      · rename_i ps1 v1 e1
        simp only [Option.some.injEq, Prod.mk.injEq] at e; obtain ⟨rfl, rfl, rfl⟩ := e
        split at ha
        · simp only [Option.some.injEq, Prod.mk.injEq] at ha; obtain ⟨rfl, _⟩ := ha
          exact areqV_ok h ho e1
        · cases ha
      · rw [isVal_new hv] at e; cases e
    · rw [isVal_mod hv] at ha; cases ha
theorem areq_add {P : Program} {tb : Tb} {s : St} {o : Oper} {q : Rq} {d : D} {ps : List Prop} {v : AV} {new : List (Nat × Box)} (hT : ∀ e ∈ tb.ents, e.Sound P) (h : areq P tb s o.op = some q) (ho : q.Out d) (ha : aadd P s d o = some (ps, v, new)) : Alls ps := by
  unfold areq at h
  unfold aadd at ha
  cases hv : isVal P o.op <;> rw [hv] at h <;> simp only [cond_true, cond_false] at h
  · rw [isVal_none hv] at ha
    exact areqN_new hT hv h ho ha
  · split at ha
    · rename_i ps1 v1 e1
      simp only [Option.some.injEq, Prod.mk.injEq] at ha; obtain ⟨rfl, rfl, rfl⟩ := ha
      exact areqV_ok h ho e1
    · rw [isVal_new hv] at ha; cases ha
end Go.Sym
/- Parts of own slices; clear. -/
namespace Go.Sym
open Go.RowKit
variable [LC]

/-- operations on parts of own slices: what is tested, the state behind it -/
def subOp (P : Program) (tb : Tb) (s : St) (o : Oper) : Option (Bool × St) :=
  bif tb.sub then
    match o.op with
    | .slice t x lo hi mx => match s.ev x, o.dst, mx with
      | some (.own k), some tt, none => match look s.hp k, P.underlying t with
        | some (.row τ l E), some (.slice E') => match tSize P E' with
          | some sz' => bif Nat.beq τ.sz sz' && Nat.blt tt s.n && noRange (s.nx + 16 * tt) s.hp then
              (match evInt s lo, evInt s hi with
              | some (some a), some none => some (decide (0 ≤ a ∧ a.toNat < l.length), { s with fr := (tt, .osl k τ.sz a.toNat) :: s.fr })
              | some none, some (some b) => some (decide (0 ≤ b ∧ b ≤ l.length), { s with fr := (tt, .own (s.nx + 16 * tt)) :: s.fr, hp := (s.nx + 16 * tt, .row τ (l.take b.toNat) E) :: (k, .dead) :: s.hp })
              | _, _ => none)
            else none
          | none => none
        | _, _ => none
      | _, _, _ => none
    | .call { callee := .builtin .clear, args, argTypes } => match args.toList, argTypes.toList, o.dst with
      | [x], [t], none => match s.ev x with
        | some (.osl k sz lo) => match look s.hp k, P.underlying t with
          | some (.row τ l E), some (.slice E') => match tZero P E' with
            | some zs => match τ.dec zs with
              | some (z, []) => bif Nat.beq sz τ.sz && Nat.beq τ.sz 1 && AV.ones zs then some (true, { s with hp := (k, .row τ (l.take lo ++ List.replicate (l.length - lo) z) E) :: s.hp }) else none
              | _ => none
            | none => none
          | _, _ => none
        | _ => none
      | _, _, _ => none
    | _ => none
  else none
section
variable {P : Program} {w₀ : World} {G₀ : Gh} {hp₀ : List (Nat × Box)} {G : Gh} {s : St} {a : Act} {w : World} {tb : Tb}
omit [LC] in
theorem splice_all : ∀ (ys b : List AV), ys.length = b.length → splice b 0 ys = ys := fun ys b h => by
  apply List.ext_getElem?
  intro j
  rw [splice_get _ _ _ _ (by omega)]
  by_cases hj : 0 ≤ j ∧ j < 0 + ys.length
  · rw [if_pos hj]; rfl
  · rw [if_neg hj, List.getElem?_eq_none_iff.2 (by omega), List.getElem?_eq_none_iff.2 (by omega)]
omit [LC] in
theorem flat_replicate {τ : Ty} {z : τ.den} : ∀ (n : Nat), (List.replicate n z).flatMap τ.enc = (List.replicate n (τ.enc z)).flatten
  | 0 => rfl
  | n + 1 => by simp [List.replicate_succ, flat_replicate n]
omit [LC] in
theorem reps_replicate {x : AV} {v : Value} (h : Rep x G v) : ∀ (n : Nat), Reps (List.replicate n [x]).flatten G (List.replicate n v)
  | 0 => trivial
  | n + 1 => by simp only [List.replicate_succ, List.flatten_cons, List.singleton_append]; exact ⟨h, reps_replicate h n⟩
theorem subOp_ok (hr : Rel w₀ G₀ hp₀ G s a w) {o : Oper} {s' : St} (h : subOp P tb s o = some (true, s')) {N : Act → World → Prop} (hN : ∀ G' a' w', Rel w₀ G₀ hp₀ G' s' a' w' → N a' w') : oDoes P o a w N := by
  obtain ⟨dst, op, ty, pos, after, guard⟩ := o
  unfold subOp at h
  cases hsub : tb.sub <;> rw [hsub] at h <;> simp only [cond_true, cond_false, reduceCtorEq] at h
  split at h
  · rename_i t x lo hi mx
    split at h
    · rename_i k tt hx
      split at h
      · rename_i τ l E E' hl hu
        split at h
        · rename_i sz' hsz
          cases hb : Nat.beq τ.sz sz' && Nat.blt tt s.n && noRange (s.nx + 16 * tt) s.hp <;> rw [hb] at h <;> simp only [cond_true, cond_false, reduceCtorEq] at h
          simp only [Bool.and_eq_true, Nat.blt_eq] at hb
          obtain ⟨⟨b1, b2⟩, b3⟩ := hb
          have b1 := Nat.eq_of_beq_eq_true b1
          subst b1
          obtain ⟨ad, c, us, h1, h3, h4, h5⟩ := (hr.fin.mem.holds _ _ hl).rowAt
          obtain ⟨ad0, n0, c0, ho0, hxe⟩ := ev_ok hr hx
          rw [h1] at ho0; simp only [Option.some.injEq, Prod.mk.injEq] at ho0
          obtain ⟨rfl, rfl, rfl⟩ := ho0
          have hc : l.length ≤ c := by
            rcases h3.2 with ⟨_, q, _⟩ | ⟨_, _, _, _, _, _, q, _⟩ <;> omega
          split at h
          · rename_i i0 hlo hhi
            simp only [Option.some.injEq, Prod.mk.injEq, decide_eq_true_eq] at h
            obtain ⟨⟨g0, g1⟩, rfl⟩ := h
            rcases evInt_ok hr hlo with ⟨_, e⟩ | ⟨xo, kx, mm, rfl, e, hxv⟩
            · cases e
            injection e with e; subst e
            rcases evInt_ok hr hhi with ⟨rfl, _⟩ | ⟨_, _, _, _, e, _⟩
            rotate_left
            · cases e
            have r1 : (Instr.sliceBounds true l.length c ((some xo).map a.eval) (Option.map a.eval none) none).run P w = .ok (i0.toNat, l.length, c) w := by
              simp [Instr.sliceBounds, hxv, run_sliceBound' (P := P) (w := w) g0 (show i0 ≤ (l.length : Int) by omega)]
            have hne : l ≠ [] := fun e => by subst e; simp at g1
            rcases h3.2 with ⟨_, q, _⟩ | ⟨g, vs, fz, rfl, k2, k3, k4, k5, k6, k7, k8⟩
            · exact absurd (List.eq_nil_of_length_eq_zero q) hne
            · have hrun : (execOp a.eval ⟨some tt, .slice t x (some xo) none none, ty, pos, after, guard⟩).run P w = .ok (.value (.slice (some ⟨g, i0.toNat * τ.sz, none⟩) (l.length - i0.toNat) (c - i0.toNat))) w := by
                simp only [Option.map_some, Option.map_none] at r1
                simp [execOp, Instr.sliceAt, Instr.slice, run_underlying' hu, hxe, r1, run_sizeOf' hsz, show c ≠ i0.toNat by omega, add_plain]
              refine oDoes_of_wp (by simp) ?_
              unfold Oper.wp
              rw [hrun]
              exact hN _ _ _ (aval_rel (v := .osl k τ.sz i0.toNat) hr (by have hb2 : Nat.blt tt s.n = true := (by simpa using b2); simp only [St.add, hb2, cond_true, List.nil_append]) ⟨g, l.length, c, h1, g1, rfl⟩)
          · rename_i i0 hlo hhi
            simp only [Option.some.injEq, Prod.mk.injEq, decide_eq_true_eq] at h
            obtain ⟨⟨g0, g1⟩, rfl⟩ := h
            rcases evInt_ok hr hhi with ⟨_, e⟩ | ⟨xo, kx, mm, rfl, e, hxv⟩
            · cases e
            injection e with e; subst e
            rcases evInt_ok hr hlo with ⟨rfl, _⟩ | ⟨_, _, _, _, e, _⟩
            rotate_left
            · cases e
            have r1 : (Instr.sliceBounds true l.length c (Option.map a.eval none) ((some xo).map a.eval) none).run P w = .ok (0, i0.toNat, c) w := by
              simp [Instr.sliceBounds, hxv, run_sliceBound' (P := P) (w := w) g0 (show i0 ≤ (c : Int) by omega)]
            have hlt : (l.take i0.toNat).length = i0.toNat := by simp; omega
            have hrun : (execOp a.eval ⟨some tt, .slice t x none (some xo) none, ty, pos, after, guard⟩).run P w = .ok (.value (.slice ad i0.toNat c)) w := by
              simp only [Option.map_some, Option.map_none] at r1
              have had : (if c = 0 then ad else ad.map (·.add (0 * τ.sz))) = ad := by
                split
                · rfl
                · rcases h3.2 with ⟨rfl, _, _⟩ | ⟨g, vs, fz, rfl, _⟩
                  · rfl
                  · simp [add_plain]
              simp only [execOp, Instr.sliceAt, Option.map_some, Option.map_none]
              simp [Instr.slice, run_underlying' hu, hxe, r1, run_sizeOf' hsz]
              simpa using had
            refine oDoes_of_wp (by simp) ?_
            unfold Oper.wp
            rw [hrun]
            have hk' := noRange_look b3 (s.nx + 16 * tt) (Nat.le_refl _) (by omega)
            obtain ⟨f1, f2⟩ := hr.fresh _ (by omega) hk'
            have hrow : RowAt w E τ.sz ad (l.take i0.toNat).length c (us.take (i0.toNat * τ.sz)) := by
              rw [hlt]
              have hm : i0.toNat * τ.sz ≤ l.length * τ.sz := Nat.mul_le_mul_right _ (by omega)
              refine ⟨by rw [List.length_take, h3.1]; omega, ?_⟩
              rcases h3.2 with ⟨q1, q2, q3⟩ | ⟨g, vs, fz, q1, q2, q3, q4, q5, q6, q7, q8⟩
              · exact .inl ⟨q1, by omega, q3⟩
              · exact .inr ⟨g, vs, fz, q1, q2, q3, by omega, q5, q6, by rw [← q7, List.take_take, Nat.min_eq_left hm], q8⟩
            have hreps : Reps ((l.take i0.toNat).flatMap τ.enc) G.data (us.take (i0.toNat * τ.sz)) := by
              have := reps_take (i0.toNat * τ.sz) h4
              have e : (l.flatMap τ.enc).take (i0.toNat * τ.sz) = (l.take i0.toNat).flatMap τ.enc := by
                have e1 : l.flatMap τ.enc = (l.take i0.toNat).flatMap τ.enc ++ (l.drop i0.toNat).flatMap τ.enc := by rw [← List.flatMap_append, List.take_append_drop]
                rw [e1, List.take_append_of_le_length (by rw [flat_len, hlt]; exact Nat.le_refl _), List.take_of_length_le (by rw [flat_len, hlt]; exact Nat.le_refl _)]
              rwa [e] at this
            have hfin := hr.fin.take hl h1 hk' f2 h5 (w' := w) ⟨rfl, rfl, rfl, Nat.le_refl _, fun _ _ _ => rfl⟩ (.inl rfl) hrow hreps
            have hle : G.le (G.addOwn (s.nx + 16 * tt) (ad, (l.take i0.toNat).length, c)) := Gh.addOwn_le f2
            refine hN _ _ _ ⟨by obtain ⟨bs, q1, q2⟩ := hr.defers; exact ⟨bs, q1, defers_le hle.box q2⟩, by simp [Act.put, hr.size], fun i z hz => ?_, fun m hm hlm => ?_, hfin⟩
            · simp only [look] at hz
              cases hbq : Nat.beq tt i
              · rw [hbq] at hz; simp only [cond_false] at hz
                have hne : tt ≠ i := fun e => by subst e; simp at hbq
                obtain ⟨u, u1, u2⟩ := hr.frame i z hz
                exact ⟨u, by simp [Act.put, hne, u1], u2.le hle⟩
              · rw [hbq] at hz; simp only [cond_true, Option.some.injEq] at hz; subst hz
                have := Nat.eq_of_beq_eq_true hbq; subst this
                exact ⟨_, by simp [Act.put, hr.size, b2], ad, i0.toNat, c, by rw [Gh.addOwn_self, hlt], rfl⟩
            · simp only [look] at hlm
              cases hbq : Nat.beq (s.nx + 16 * tt) m
              · rw [hbq] at hlm; simp only [cond_false] at hlm
                cases hbk : Nat.beq k m
                · rw [hbk] at hlm
                  obtain ⟨g1, g2⟩ := hr.fresh m hm hlm
                  refine ⟨g1, ?_⟩
                  show (bif Nat.beq m (s.nx + 16 * tt) then some _ else G.own m) = none
                  cases hbm : Nat.beq m (s.nx + 16 * tt)
                  · exact g2
                  · have := Nat.eq_of_beq_eq_true hbm; subst this; simp at hbq
                · rw [hbk] at hlm; cases hlm
              · rw [hbq] at hlm; cases hlm
          · cases h
        · cases h
      · cases h
    · cases h
  · rename_i args ats
    split at h
    · rename_i x t ha hty
      split at h
      · rename_i k sz lo hx
        split at h
        · rename_i τ l E E' hl hu
          split at h
          · rename_i zs hzs
            split at h
            · rename_i z hdec
              cases hb : Nat.beq sz τ.sz && Nat.beq τ.sz 1 && AV.ones zs <;> rw [hb] at h <;> simp only [cond_true, cond_false, reduceCtorEq, Option.some.injEq, Prod.mk.injEq, true_and] at h
              subst h
              simp only [Bool.and_eq_true] at hb
              obtain ⟨⟨b1, b2⟩, b3⟩ := hb
              have b1 := Nat.eq_of_beq_eq_true b1
              have b2 := Nat.eq_of_beq_eq_true b2
              subst b1
              have e1 : args = #[x] := by rw [← Array.toArray_toList (xs := args), ha]
              have e2 : ats = #[t] := by rw [← Array.toArray_toList (xs := ats), hty]
              subst e1 e2
              obtain ⟨g, n, c, o1, o2, hxe⟩ := ev_ok hr hx
              obtain ⟨ad, c', q1, q2⟩ := hr.fin.mem.holds _ _ hl
              rw [o1] at q1; simp only [Option.some.injEq, Prod.mk.injEq] at q1
              obtain ⟨rfl, rfl, rfl⟩ := q1
              rcases q2 with ⟨q, _⟩ | ⟨g', vs, fz, q, k2, k3, k4, k5, k6, k7, k8, k9⟩
              · cases q
              · simp only [Option.some.injEq, Addr.mk.injEq, and_true] at q
                subst q
                obtain ⟨pre, e, hsd⟩ := dec_seen hdec
                simp only [List.append_nil] at e; subst e
                obtain ⟨zv, hz1, hz2⟩ := run_zero' (P := P) hzs w G.data
                obtain ⟨ps, hv1, hv2⟩ := hsd.2
                have hz3 : Reps (τ.enc z) G.data zv.cells.toList := vws_ok (Gh.le.refl _) (fun e => by cases e) hv1 hv2 hz2
                have hlen1 : (τ.enc z).length = 1 := by rw [τ.enc_length]; exact b2
                obtain ⟨x1, hx1⟩ : ∃ x1, τ.enc z = [x1] := by
                  match τ.enc z, hlen1 with
                  | [x1], _ => exact ⟨x1, rfl⟩
                rw [hx1] at hz3
                obtain ⟨v1, hv1'⟩ : ∃ v1, zv.cells = #[v1] := by
                  have := hz3.length
                  match hq : zv.cells.toList, this with
                  | [v1], _ => exact ⟨v1, by rw [← Array.toArray_toList (xs := zv.cells), hq]⟩
                have hone : v1.oneCell' = true := reps_ones hz2 b3 v1 (by rw [hv1']; simp)
                have hzc : (Builtin.zeroCells zv.cells (l.length - lo)).toList = List.replicate (l.length - lo) v1 := by
                  rw [hv1']
                  simp [Builtin.zeroCells]
                  apply List.ext_getElem
                  · simp
                  · intro i _ _
                    simp [Nat.mod_one]
                rw [b2] at k6 k7
                simp only [Nat.mul_one] at k6 k7
                obtain ⟨w', cur', s1, s2, s3, s4⟩ := run_storeCells' (P := P) g lo E fz (List.replicate (l.length - lo) v1) 0 vs w k2 (by simp; omega) k3 (fun v hv => by rw [List.eq_of_mem_replicate hv]; exact hone)
                have hrun : (execOp a.eval ⟨none, .call { callee := .builtin .clear, args := #[x], argTypes := #[t] }, ty, pos, after, guard⟩).run P w = .ok (.value (.tuple #[])) w' := by
                  obtain ⟨m, hm⟩ : ∃ m, l.length - lo = m + 1 := ⟨l.length - lo - 1, by omega⟩
                  rw [hm] at s1 hzc
                  simp [execOp, resolve, invoke, builtin, hxe, b2, hm, Builtin.clear_, run_underlying' hu, hz1, hzc, s1]
                refine oDoes_of_wp (by simp) ?_
                unfold Oper.wp
                rw [hrun]
                have hat : G.at k (.row τ l E) = some g := by simp [Gh.at, o1]
                have hl' : (l.take lo ++ List.replicate (l.length - lo) z).length = l.length := by simp; omega
                have hfl : (l.take lo ++ List.replicate (l.length - lo) z).flatMap τ.enc = splice (l.flatMap τ.enc) lo (List.replicate (l.length - lo) [x1]).flatten := by
                  have e1 : l.flatMap τ.enc = (l.take lo).flatMap τ.enc ++ (l.drop lo).flatMap τ.enc := by rw [← List.flatMap_append, List.take_append_drop]
                  have e2 : ((l.take lo).flatMap τ.enc).length = lo := by rw [flat_len, b2]; simp; omega
                  have e3 : ((l.drop lo).flatMap τ.enc).length = l.length - lo := by rw [flat_len, b2]; simp
                  rw [List.flatMap_append, flat_replicate, hx1, e1]
                  have := splice_right (List.replicate (l.length - lo) [x1]).flatten ((l.take lo).flatMap τ.enc) ((l.drop lo).flatMap τ.enc) 0
                  rw [e2, Nat.add_zero] at this
                  rw [this, splice_all _ _ (by rw [e3]; simp)]
                refine hN G _ _ ⟨hr.defers, hr.size, hr.frame, fun m hm hlm => hr.fresh m hm ?_, hr.fin.update (bx' := .row τ (l.take lo ++ List.replicate (l.length - lo) z) E) hl hat (by simp [Gh.at, o1]) s4 ?_ k9⟩
                · simp only [look] at hlm
                  cases hbq : Nat.beq k m
                  · rw [hbq] at hlm; exact hlm
                  · rw [hbq] at hlm; cases hlm
                · have hsz : cur'.size = vs.size := by
                    have := congrArg List.length s3
                    rw [vsplice_length] at this
                    simpa using this
                  refine ⟨some ⟨g, 0, none⟩, c, by rw [hl']; exact o1, .inr ⟨g, cur', fz, rfl, s2, by rw [hsz]; exact k3, by rw [hl']; exact k4, k5, by rw [hsz, b2, k6]; simp, ?_, ?_, k9⟩⟩
                  · rw [hl', hfl, b2, Nat.mul_one, s3, Nat.add_zero, vsplice_take_comm _ _ _ _ (by simp; omega)]
                    exact reps_vsplice _ k7 (reps_replicate (by rw [hv1'] at hz3; exact hz3.1) _)
                  · intro u hu'
                    rw [s3] at hu'
                    rcases vsplice_mem _ _ _ _ hu' with hu' | hu'
                    · exact k8 u hu'
                    · rw [List.eq_of_mem_replicate hu']; exact hone
            · cases h
          · cases h
        · cases h
      · cases h
    · cases h
  · cases h
end
end Go.Sym
/- A conversion of bytes to bytes: the memory is marked, what it holds stays. -/
namespace Go.Sym
open Go.RowKit
variable [LC]

/-- operations on own memory that keep what it holds: what is tested, the state behind it -/
def fixOp (P : Program) (s : St) (o : Oper) : Option (Bool × St) :=
  match o.op, o.dst with
  | .convert src dst x, some tt => match s.ev x with
    | some (.own k) => match look s.hp k, P.underlying src, P.underlying dst with
      | some (.row τ l E), some (.slice _), some (.slice e) => match P.underlying e with
        | some (.int .u8) => bif Nat.beq src dst && Nat.blt tt s.n then some (decide (0 < l.length), { s with fr := (tt, .own k) :: s.fr, hp := (k, .row τ l E) :: s.hp }) else none
        | _ => none
      | _, _, _ => none
    | _ => none
  | _, _ => none
section
variable {P : Program} {w₀ : World} {G₀ : Gh} {hp₀ : List (Nat × Box)} {G : Gh} {s : St} {a : Act} {w : World}
theorem fixOp_ok (hr : Rel w₀ G₀ hp₀ G s a w) {o : Oper} {s' : St} (h : fixOp P s o = some (true, s')) {N : Act → World → Prop} (hN : ∀ G' a' w', Rel w₀ G₀ hp₀ G' s' a' w' → N a' w') : oDoes P o a w N := by
  obtain ⟨dst, op, ty, pos, after, guard⟩ := o
  unfold fixOp at h
  split at h
  · rename_i src dst x tt e1 e2
    simp only at e1 e2; subst e1 e2
    split at h
    · rename_i k hx
      split at h
      · rename_i τ l E E1 E2 hl hus hud
        split at h
        · rename_i hue
          cases hb : Nat.beq src dst && Nat.blt tt s.n <;> rw [hb] at h <;> simp only [cond_true, cond_false, reduceCtorEq, Option.some.injEq, Prod.mk.injEq, decide_eq_true_eq] at h
          obtain ⟨hpos, rfl⟩ := h
          simp only [Bool.and_eq_true] at hb
          have hsd := Nat.eq_of_beq_eq_true hb.1
          subst hsd
          rw [hus] at hud; cases hud
          obtain ⟨ad0, n0, c0, o1, hxe⟩ := ev_ok hr hx
          obtain ⟨ad, c', q1, q2⟩ := hr.fin.mem.holds _ _ hl
          rw [o1] at q1; simp only [Option.some.injEq, Prod.mk.injEq] at q1
          obtain ⟨rfl, rfl, rfl⟩ := q1
          rcases q2 with ⟨_, q, _⟩ | ⟨g, vs, fz, rfl, k2, k3, k4, k5, k6, k7, k8, k9⟩
          · subst q; simp at hpos
          · have hw : (w.freeze ⟨g, vs.size, none⟩ 1).heap[g]? = some (.cells vs E (if fz.1 == fz.2 then (vs.size, vs.size + 1) else (min fz.1 vs.size, max fz.2 (vs.size + 1)))) := by
              simp only [World.freeze, Nat.one_ne_zero, if_false, Array.getElem?_modify, k2]
              simp
            have hshape : w.shape? g = some (E, vs.size) := by simp only [World.shape?, k2]
            have hrun : (execOp a.eval ⟨some tt, .convert src src x, ty, pos, after, guard⟩).run P w = .ok (.value (.slice (some ⟨g, 0, none⟩) l.length c0)) (w.freeze ⟨g, vs.size, none⟩ 1) := by
              simp [execOp, hxe, convert, run_underlying' hus, run_underlying' hue, markStringish, hshape]
            refine oDoes_of_wp (by simp) ?_
            unfold Oper.wp
            rw [hrun]
            have hat : G.at k (.row τ l E) = some g := by simp [Gh.at, o1]
            have hbel : Bel (fun b => b = g) w (w.freeze ⟨g, vs.size, none⟩ 1) := by
              refine ⟨rfl, rfl, rfl, ?_, fun j hj hne => ?_⟩
              · simp [World.freeze]
              · simp only [World.freeze, Nat.one_ne_zero, if_false, Array.getElem?_modify]
                rw [if_neg (fun q => hne q.symm)]
            have hok : BoxOk G (w.freeze ⟨g, vs.size, none⟩ 1) k (.row τ l E) := by
              refine ⟨some ⟨g, 0, none⟩, c0, o1, .inr ⟨g, vs, _, rfl, hw, ?_, k4, k5, k6, k7, k8, k9⟩⟩
              refine .inr ?_
              split
              · exact Nat.le_refl _
              · rename_i hne
                rcases k3 with rfl | k3
                · simp at hne
                · simp only; omega
            have hfin := hr.fin.update (bx' := .row τ l E) hl hat hat hbel hok k9
            have hb2 : Nat.blt tt s.n = true := hb.2
            refine hN G _ _ ?_
            have hr2 : Rel w₀ G₀ hp₀ G { s with hp := (k, .row τ l E) :: s.hp } a (w.freeze ⟨g, vs.size, none⟩ 1) := ⟨hr.defers, hr.size, hr.frame, fun m hm hlm => hr.fresh m hm (by
              simp only [look] at hlm
              cases hbq : Nat.beq k m
              · rw [hbq] at hlm; exact hlm
              · rw [hbq] at hlm; cases hlm), hfin⟩
            exact aval_rel (v := .own k) hr2 (by simp only [St.add, hb2, cond_true, List.nil_append]) ⟨_, _, _, o1, rfl⟩
        · cases h
      · cases h
    · cases h
  · cases h
end
end Go.Sym
/- Calls of functions without a body, that answer at once and leave memory as it is. -/
namespace Go.Sym
open Go.RowKit
variable [LC]

def keyExt (f : FuncId) : Key → Bool
  | .ext f' => Nat.beq f' f
  | _ => false
/-- the entry of that name -/
def entOf (f : FuncId) : List Ent → Option Ent
  | [] => none
  | e :: es => bif keyExt f e.key then some e else entOf f es
def extOp {R : Type} (tb : Tb) (s : St) (o : Oper) (K : St → Option R) : Option (Option R) :=
  match o.op, o.dst with
  | .call { callee := .value g, args, argTypes := _ }, some tt => match s.ev g, s.evs args.toList with
    | some (.fn (.func f) [] []), some xs => match entOf f tb.ents with
      | some e => match Pts.get e.args (lends s.hp xs) [] with
        | some (d, nm) => match bget s.hp e.hp nm with
          | some (d', nm') => bif nilN nm' && Nat.blt tt s.n then
              some ((e.F d d').bind fun r => bif noRef (e.out.res r).1 then K { s with fr := (tt, (e.out.res r).1) :: s.fr } else none) else none
          | none => none
        | none => none
      | none => none
    | _, _ => none
  | _, _ => none
omit [LC] in
theorem entOf_mem {f : FuncId} : ∀ {es : List Ent} {e : Ent}, entOf f es = some e → e ∈ es ∧ e.key = .ext f
  | [], e, h => by cases h
  | e' :: es, e, h => by
    unfold entOf at h
    cases hb : keyExt f e'.key <;> rw [hb] at h <;> simp only [cond_true, cond_false, Option.some.injEq] at h
    · exact ⟨List.mem_cons_of_mem _ (entOf_mem h).1, (entOf_mem h).2⟩
    · subst h
      refine ⟨List.mem_cons_self, ?_⟩
      unfold keyExt at hb
      split at hb
      · rename_i f' hk; rw [hk, Nat.eq_of_beq_eq_true hb]
      · cases hb
section
variable {P : Program} {w₀ : World} {G₀ : Gh} {hp₀ : List (Nat × Box)} {G : Gh} {s : St} {a : Act} {w : World} {R : Type} {tb : Tb}
theorem extOp_ok (hT : ∀ e ∈ tb.ents, e.Sound P) (hr : Rel w₀ G₀ hp₀ G s a w) {o : Oper} {K : St → Option R} {r : Option R} {x : R} (h : extOp tb s o K = some r) (hx : r = some x) {N : Act → World → Prop} (hN : ∀ s', K s' = some x → ∀ G' a' w', Rel w₀ G₀ hp₀ G' s' a' w' → N a' w') : oDoes P o a w N := by
  obtain ⟨dst, op, ty, pos, after, guard⟩ := o
  unfold extOp at h
  split at h
  · rename_i g args ats tt e1 e2
    simp only at e1 e2; subst e1 e2
    split at h
    · rename_i f xs hg hargs
      split at h
      · rename_i e he
        split at h
        · rename_i d nm hget
          split at h
          · rename_i d' nm' hbg
            cases hb : nilN nm' && Nat.blt tt s.n <;> rw [hb] at h <;> simp only [cond_true, cond_false, reduceCtorEq, Option.some.injEq] at h
            simp only [Bool.and_eq_true] at hb
            have hn := nilN_eq hb.1
            subst hn
            rw [hx] at h
            obtain ⟨y, hy, h⟩ := Option.bind_eq_some_iff.1 h
            cases hnr : noRef (e.out.res y).1 <;> rw [hnr] at h <;> simp only [cond_true, cond_false, reduceCtorEq] at h
            obtain ⟨hmem, hkey⟩ := entOf_mem he
            have hs := hT e hmem d d' y hy
            rw [hkey] at hs
            have hs : ExtTo P f (Pts.put e.args d) (e.out.res y).1 := hs
            have hseen := (Pts.get_seen hget).2 [] rfl (fun n m hh => by have := (bget_seen hbg).1 n m hh; cases this)
            obtain ⟨ps, k1, k2⟩ := vws_lend (noIfs_put (ps := e.args) (d := d)) hseen
            obtain ⟨z1, z2, z3, z4⟩ := allData_spec hr.fin
            obtain ⟨fs, cs, hge, hfs, hcs⟩ := ev_ok hr hg
            have hfs0 : fs = #[] := Array.eq_empty_of_size_eq_zero (by have := hfs.length; simpa using this.symm)
            have hcs0 : cs = #[] := Array.eq_empty_of_size_eq_zero (by have := hcs.length; simpa using this.symm)
            subst hfs0 hcs0
            have hreps := vws_ok z1 (fun _ => z4) k1 k2 (evs_ok hr hargs)
            obtain ⟨v, hv1, hv2⟩ := hs w _ _ z2 hreps
            have hv3 : Rep (e.out.res y).1 G v := noRef_ok (G := G.allData s.hp w) (G' := G) (fun _ _ q => q) (fun _ _ q => q) hnr hv2
            have hrun : (execOp a.eval ⟨some tt, .call { callee := .value g, args := args, argTypes := ats }, ty, pos, after, guard⟩).run P w = .ok (.value v) w := by
              have e3 : (args.toList.map a.eval).toArray = args.map a.eval := by rw [← Array.toArray_toList (xs := args.map a.eval), Array.toList_map]
              try rw [e3] at hv1
              simp [execOp, resolve, hge, Deferred.ofValue, invoke, hv1]
            refine oDoes_of_wp (by simp) ?_
            unfold Oper.wp
            rw [hrun]
            have hb2 : Nat.blt tt s.n = true := hb.2
            exact hN _ h _ _ _ (aval_rel (v := (e.out.res y).1) hr (by simp only [St.add, hb2, cond_true, List.nil_append]) hv3)
          · cases h
        · cases h
      · cases h
    · cases h
  · cases h
end
end Go.Sym
/- Arrays of many elements of one cell: rows, read and written by index. -/
namespace Go.Sym
open Go.RowKit
variable [LC]

/-- the code of a basic type -/
def tyOf1 (P : Program) (t : TypeId) : Option Ty := match P.underlying t with
  | some (.int k) => match k with
    | .u8 => some .byte
    | k => some (.int k)
  | some .bool => some .bool
  | some .string => some .str
  | _ => none
def Ty.zero1 : (τ : Ty) → Option τ.den
  | .int _ => some (0 : Int)
  | .byte => some (0 : UInt8)
  | .bool => some false
  | .str => some ([] : List UInt8)
  | _ => none
def zeroIs : Ty → AV → Bool
  | .int k, x => match x with
    | .int k' n => decide (k' = k) && decide (n = 0)
    | _ => false
  | .byte, x => match x with
    | .byte c => decide (c = 0)
    | _ => false
  | .bool, x => match x with
    | .bool b => !b
    | _ => false
  | .str, x => match x with
    | .str s => s.isEmpty
    | _ => false
  | _, _ => false
def allZero (τ : Ty) : List AV → Bool
  | [] => true
  | x :: xs => zeroIs τ x && allZero τ xs
def Ty.is1 : Ty → Bool
  | .int _ => true
  | .byte => true
  | .bool => true
  | .str => true
  | _ => false
/-- a type of arrays that are rows -/
def bigArr (P : Program) (T : TypeId) : Bool := match P.underlying T with
  | some (.array n _) => Nat.blt 32 n
  | _ => false
/-- operations on arrays that are rows: what is tested, the state behind it -/
def arrOp (P : Program) (s : St) (o : Oper) : Option (Bool × St) :=
  match o.op, o.dst with
  | .alloc T, some t => match P.underlying T with
    | some (.array n E) => bif Nat.blt 32 n then
        match tyOf1 P E, tZero P T with
        | some τ, some zs => match τ.zero1 with
          | some z => bif Nat.beq zs.length n && allZero τ zs && Nat.ble n 65536 && AV.ones zs && noRange (s.nx + 16 * t) s.hp && Nat.blt t s.n then
              some (true, { s with fr := (t, .oel (s.nx + 16 * t) 1 0 0) :: s.fr, hp := (s.nx + 16 * t, .row τ (List.replicate n z) T) :: s.hp }) else none
          | none => none
        | _, _ => none
      else none
    | _ => none
  | .load T x, some t => bif bigArr P T then match s.ev x with
    | some (.oel k sz 0 0) => match look s.hp k, tAgg P T, tSize P T with
      | some (.row τ l _), some true, some n => bif τ.is1 && Nat.beq sz 1 && Nat.blt t s.n then some (decide (l.length = n), { s with fr := (t, .arr τ l) :: s.fr }) else none
      | _, _, _ => none
    | _ => none else none
  | .store T x y, none => bif bigArr P T then match s.ev x, s.ev y with
    | some (.oel k sz 0 0), some (.arr τ l) => match look s.hp k, tSize P T with
      | some (.row τ0 l0 E0), some n => bif τ.is1 && τ0.is1 && Nat.beq sz 1 then some (decide (l.length = l0.length) && decide (l.length = n), { s with hp := (k, .row τ l E0) :: s.hp }) else none
      | _, _ => none
    | _, _ => none else none
  | .indexAddr T x i, some t => bif bigArr P T then match P.underlying T with
    | some (.array n E) => match s.ev x, tSize P E with
      | some (.oel k sz 0 0), some 1 => bif Nat.beq sz 1 && Nat.blt t s.n then
          match s.evy i with
          | some (.int _ j) => some (decide (0 ≤ j) && decide (j < n), { s with fr := (t, .oel k 1 j.toNat 0) :: s.fr })
          | some (.byte c) => some (Nat.ble 256 n || decide (c.toNat < n), { s with fr := (t, .oel k 1 c.toNat 0) :: s.fr })
          | _ => none
        else none
      | _, _ => none
    | _ => none else none
  | _, _ => none
omit [LC] in
theorem is1_sz {τ : Ty} (h : τ.is1 = true) : τ.sz = 1 := by cases τ <;> first | rfl | cases h
omit [LC] in
theorem zero1_is1 {τ : Ty} {z : τ.den} (h : τ.zero1 = some z) : τ.is1 = true := by cases τ <;> first | rfl | cases h
omit [LC] in
theorem zeroIs_ok {τ : Ty} {x : AV} {z : τ.den} {G : Gh} {v : Value} (h : zeroIs τ x = true) (hz : τ.zero1 = some z) (hr : Rep x G v) : Reps (τ.enc z) G [v] := by
  cases τ with
  | int k =>
    cases x <;> simp only [zeroIs, Bool.false_eq_true, Bool.and_eq_true, decide_eq_true_eq] at h
    obtain ⟨rfl, rfl⟩ := h
    cases hz; exact ⟨hr, trivial⟩
  | byte =>
    cases x <;> simp only [zeroIs, Bool.false_eq_true, decide_eq_true_eq] at h
    subst h
    cases hz; exact ⟨hr, trivial⟩
  | bool =>
    cases x with
    | bool b =>
      cases b
      · cases hz; exact ⟨hr, trivial⟩
      · cases h
    | _ => cases h
  | str =>
    cases x with
    | str l =>
      cases l
      · cases hz; exact ⟨hr, trivial⟩
      · cases h
    | _ => cases h
  | _ => cases hz
omit [LC] in
theorem allZero_ok {τ : Ty} {z : τ.den} {G : Gh} (hz : τ.zero1 = some z) : ∀ {zs : List AV} {vs : List Value}, allZero τ zs = true → Reps zs G vs → Reps ((List.replicate zs.length z).flatMap τ.enc) G vs
  | [], [], _, _ => trivial
  | x :: zs, v :: vs, h, hr => by
    simp only [allZero, Bool.and_eq_true] at h
    rw [List.length_cons, List.replicate_succ, List.flatMap_cons]
    exact reps_append (vs := [v]) (zeroIs_ok h.1 hz hr.1) (allZero_ok hz h.2 hr.2)
  | [], _ :: _, _, h => h.elim
  | _ :: _, [], _, h => h.elim
omit [LC] in
theorem enc1 {τ : Ty} (h : τ.is1 = true) (x : τ.den) : τ.enc x = [τ.av x] := by cases τ <;> first | rfl | cases h
omit [LC] in
theorem av_V1 {τ : Ty} (h : τ.is1 = true) {x : τ.den} {G : Gh} {v : Value} : Rep (τ.av x) G v ↔ τ.V1 G.imm x v := by cases τ <;> first | exact Iff.rfl | cases h
omit [LC] in
theorem flat1 {τ : Ty} (h : τ.is1 = true) : ∀ (l : List τ.den), l.flatMap τ.enc = l.map τ.av
  | [] => rfl
  | x :: l => by rw [List.flatMap_cons, enc1 h, flat1 h l]; rfl
omit [LC] in
/-- an array's value as cells -/
theorem arr_reps {τ : Ty} (h : τ.is1 = true) {l : List τ.den} {G : Gh} {v : Value} (hv : Rep (.arr τ l) G v) : ∃ vs : Array Value, v = .agg vs ∧ Reps (l.flatMap τ.enc) G.data vs.toList := by
  obtain ⟨vs, rfl, h1, h2⟩ := hv
  refine ⟨vs, rfl, ?_⟩
  rw [flat1 h]
  have : ∀ (l : List τ.den) (us : List Value), us.length = l.length → (∀ (j : Nat) (x : τ.den), l[j]? = some x → ∃ u, us[j]? = some u ∧ τ.V1 G.imm x u) → Reps (l.map τ.av) G.data us := by
    intro l
    induction l with
    | nil => intro us hl _; rw [List.eq_nil_of_length_eq_zero hl]; trivial
    | cons x l ih =>
      intro us hl hu
      cases us with
      | nil => cases hl
      | cons u us =>
        refine ⟨?_, ih us (by simpa using hl) (fun j y hy => hu (j + 1) y (by simpa using hy))⟩
        obtain ⟨u', e, k⟩ := hu 0 x rfl
        simp only [List.getElem?_cons_zero, Option.some.injEq] at e; subst e
        exact (av_V1 h (G := G.data)).2 k
  exact this l vs.toList (by simpa using h1) (fun j x hx => by obtain ⟨u, k1, k2⟩ := h2 j x hx; exact ⟨u, by simpa using k1, k2⟩)
omit [LC] in
theorem reps_arr {τ : Ty} (h : τ.is1 = true) {l : List τ.den} {G : Gh} {vs : List Value} (hv : Reps (l.flatMap τ.enc) G.data vs) : Rep (.arr τ l) G (.agg vs.toArray) := by
  rw [flat1 h] at hv
  refine ⟨vs.toArray, rfl, by simpa using hv.length.symm, fun j x hx => ?_⟩
  obtain ⟨u, k1, k2⟩ := reps_get hv (i := j) (x := τ.av x) (by simp [hx])
  exact ⟨u, by simpa using k1, (av_V1 h (G := G.data)).1 k2⟩
section
variable {P : Program} {w₀ : World} {G₀ : Gh} {hp₀ : List (Nat × Box)} {G : Gh} {s : St} {a : Act} {w : World}
theorem arrOp_ok (hr : Rel w₀ G₀ hp₀ G s a w) {o : Oper} {s' : St} (h : arrOp P s o = some (true, s')) {N : Act → World → Prop} (hN : ∀ G' a' w', Rel w₀ G₀ hp₀ G' s' a' w' → N a' w') : oDoes P o a w N := by
  obtain ⟨dst, op, ty, pos, after, guard⟩ := o
  unfold arrOp at h
  split at h
  · rename_i T t e1 e2
    simp only at e1 e2; subst e1 e2
    split at h
    · rename_i n E hu
      cases hn : Nat.blt 32 n <;> rw [hn] at h <;> simp only [cond_true, cond_false, reduceCtorEq] at h
      split at h
      · rename_i τ zs hτ hzs
        split at h
        · rename_i z hz
          cases hb : Nat.beq zs.length n && allZero τ zs && Nat.ble n 65536 && AV.ones zs && noRange (s.nx + 16 * t) s.hp && Nat.blt t s.n <;> rw [hb] at h <;> simp only [cond_true, cond_false, reduceCtorEq, Option.some.injEq, Prod.mk.injEq, true_and] at h
          subst h
          simp only [Bool.and_eq_true] at hb
          obtain ⟨⟨⟨⟨⟨b1, b2⟩, b3⟩, b4⟩, b5⟩, b6⟩ := hb
          have b1 := Nat.eq_of_beq_eq_true b1
          have b3 : n ≤ 65536 := Nat.le_of_ble_eq_true b3
          have hsz : τ.sz = 1 := is1_sz (zero1_is1 hz)
          obtain ⟨Z, hz1, hz2⟩ := run_zero' (P := P) hzs w G.data
          have hlen : Z.cells.toList.length = n := by rw [← hz2.length, b1]
          have hreps := allZero_ok hz b2 hz2
          rw [b1] at hreps
          have hone := reps_ones hz2 b4
          have hrun : (execOp a.eval ⟨some t, .alloc T, ty, pos, after, guard⟩).run P w = .ok (.value (.pointer (some ⟨w.heap.size, 0, none⟩))) (w.alloc (.cells Z.cells T)) := by
            simp [execOp, Instr.alloc, hz1, newVar, newRow]
          refine oDoes_of_wp (by simp) ?_
          unfold Oper.wp
          rw [hrun]
          have hrow : RowAt (w.alloc (.cells Z.cells T)) T τ.sz (some ⟨w.heap.size, 0, none⟩) (List.replicate n z).length n Z.cells.toList := by
            refine ⟨by rw [hsz, hlen]; simp, .inr ⟨w.heap.size, Z.cells, (0, 0), rfl, heap_alloc_top _ _, .inl rfl, by simp, ?_, ?_, ?_, hone⟩⟩
            · exact Nat.le_trans b3 (by decide)
            · rw [hsz, ← hlen]; simp
            · rw [List.take_of_length_le]; rw [hsz, hlen]; simp
          obtain ⟨G', hG⟩ := row_relV (t := t) (v := .oel (s.nx + 16 * t) 1 0 0) (u := .pointer (some ⟨w.heap.size, 0, none⟩)) (s' := { s with fr := (t, .oel (s.nx + 16 * t) 1 0 0) :: s.fr, hp := (s.nx + 16 * t, .row τ (List.replicate n z) T) :: s.hp }) hr b5 (still_alloc _ _) hrow hreps
            (fun b hb => by injection hb with hb; subst hb; exact Nat.le_refl _) (fun G' hG' => ⟨w.heap.size, _, n, hG', by simp⟩)
            (by have hb2 : Nat.blt t s.n = true := b6; simp only [St.add, hb2, cond_true]; rfl)
          exact hN _ _ _ hG
        · cases h
      · cases h
    · cases h
  · rename_i T x t e1 e2
    simp only at e1 e2; subst e1 e2
    cases hbig : bigArr P T <;> rw [hbig] at h <;> simp only [cond_true, cond_false, reduceCtorEq] at h
    split at h
    · rename_i k sz hx
      split at h
      · rename_i τ l E n hl hagg hn
        cases hb : τ.is1 && Nat.beq sz 1 && Nat.blt t s.n <;> rw [hb] at h <;> simp only [cond_true, cond_false, reduceCtorEq, Option.some.injEq, Prod.mk.injEq, decide_eq_true_eq] at h
        obtain ⟨hlen, rfl⟩ := h
        simp only [Bool.and_eq_true] at hb
        obtain ⟨⟨b1, b2⟩, b3⟩ := hb
        have hsz : τ.sz = 1 := is1_sz b1
        obtain ⟨B, n0, c0, ho, hxe⟩ := ev_ok hr hx
        obtain ⟨ad, c', h1, h3⟩ := hr.fin.mem.holds _ _ hl
        rw [ho] at h1; simp only [Option.some.injEq, Prod.mk.injEq] at h1
        obtain ⟨rfl, rfl, rfl⟩ := h1
        rcases h3 with ⟨h3, _⟩ | ⟨g, vs, fz, k1, k2, k3, k4, k5, k6, k7, k8, k9⟩
        · cases h3
        · simp only [Option.some.injEq, Addr.mk.injEq, and_true] at k1
          subst k1
          have hfl : (l.flatMap τ.enc).length = n := by rw [flat_len, hsz, hlen, Nat.mul_one]
          have hload : aload P T (l.flatMap τ.enc) 0 = some (.agg (l.flatMap τ.enc)) := by
            unfold aload
            rw [hagg, hn]
            have : Nat.ble (0 + n) (l.flatMap τ.enc).length = true := by rw [hfl, Nat.zero_add]; simp
            simp only [this, cond_true, List.drop_zero]
            rw [List.take_of_length_le (by rw [hfl]; exact Nat.le_refl _)]
          obtain ⟨u, hu, us, rfl, hru⟩ := run_loadVar' (P := P) (w := w) hload (B := B) (o := 0) k7 (fun j u hu => by
            rw [List.getElem?_take] at hu
            split at hu
            · rw [Nat.zero_add]; exact cell_of_heap k2 hu
            · cases hu)
          have hrun : (execOp a.eval ⟨some t, .load T x, ty, pos, after, guard⟩).run P w = .ok (.value (.agg us)) w := by
            simp only [Nat.add_zero] at hu
            simp [execOp, hxe, Instr.loadAt, Instr.sureAddr, hu]
          refine oDoes_of_wp (by simp) ?_
          unfold Oper.wp
          rw [hrun]
          have hb2 : Nat.blt t s.n = true := b3
          have := reps_arr (G := G) b1 hru
          exact hN _ _ _ (aval_rel (v := .arr τ l) hr (by simp only [St.add, hb2, cond_true, List.nil_append]) (by simpa using this))
      · cases h
    · cases h
  · rename_i T x y e1 e2
    simp only at e1 e2; subst e1 e2
    cases hbig : bigArr P T <;> rw [hbig] at h <;> simp only [cond_true, cond_false, reduceCtorEq] at h
    split at h
    · rename_i k sz τ l hx hy
      split at h
      · rename_i τ0 l0 E0 n hl hn
        cases hb : τ.is1 && τ0.is1 && Nat.beq sz 1 <;> rw [hb] at h <;> simp only [cond_true, cond_false, reduceCtorEq, Option.some.injEq, Prod.mk.injEq, Bool.and_eq_true, decide_eq_true_eq] at h
        obtain ⟨⟨hlen, hlen2⟩, rfl⟩ := h
        simp only [Bool.and_eq_true] at hb
        obtain ⟨⟨b1, b2⟩, b3⟩ := hb
        have hsz : τ.sz = 1 := is1_sz b1
        have hsz0 : τ0.sz = 1 := is1_sz b2
        obtain ⟨B, n0, c0, ho0, hxe⟩ := ev_ok hr hx
        obtain ⟨us, hye, hus⟩ := arr_reps b1 (ev_ok hr hy)
        obtain ⟨ad, c, h1, h3⟩ := hr.fin.mem.holds _ _ hl
        rw [ho0] at h1; simp only [Option.some.injEq, Prod.mk.injEq] at h1
        obtain ⟨rfl, rfl, rfl⟩ := h1
        rcases h3 with ⟨h3, _⟩ | ⟨g, vs, fz, k1, k2, k3, k4, k5, k6, k7, k8, k9⟩
        · cases h3
        · simp only [Option.some.injEq, Addr.mk.injEq, and_true] at k1
          subst k1
          have hul : us.toList.length = n := by rw [← hus.length, flat_len, hsz, hlen2, Nat.mul_one]
          have hones : ∀ v ∈ us.toList, v.oneCell' = true := reps_ones hus (by
            rw [flat1 b1]
            have : ∀ l : List τ.den, AV.ones (l.map τ.av) = true := by
              intro l
              induction l with
              | nil => rfl
              | cons x l ih =>
                simp only [List.map_cons, AV.ones, ih, Bool.and_true]
                cases τ <;> first | rfl | cases b1
            exact this l)
          have hle : l0.length ≤ vs.size := by rw [k6, hsz0, Nat.mul_one]; exact k4
          obtain ⟨w', cur', m1, m2, m3, m4⟩ := run_storeCells' (P := P) B 0 E0 fz us.toList 0 vs w k2 (by omega) k3 hones
          have hrun : (execOp a.eval ⟨none, .store T x y, ty, pos, after, guard⟩).run P w = .ok .skip w' := by
            have hul' : us.size = n := by simpa using hul
            simp [execOp, Instr.storeAt, hxe, hye, Instr.sureAddr, storeVar, run_sizeOf' hn, Value.cells, hul', m1]
          refine oDoes_of_wp (by simp) ?_
          unfold Oper.wp
          rw [hrun]
          have hcs : cur'.size = vs.size := by rw [← Array.length_toList, m3, vsplice_length, Array.length_toList]
          refine hN G _ _ ⟨hr.defers, hr.size, hr.frame, fun m hm hlm => hr.fresh m hm ?_, ?_⟩
          · simp only [look] at hlm
            cases hbq : Nat.beq k m
            · rw [hbq] at hlm; exact hlm
            · rw [hbq] at hlm; cases hlm
          · refine hr.fin.update (bx' := .row τ l E0) hl (B := B) (by simp [Gh.at, ho0]) (by simp [Gh.at, ho0]) m4 ⟨some ⟨B, 0, none⟩, c0, by rw [hlen]; exact ho0, .inr ⟨B, cur', fz, rfl, m2, by rw [hcs]; exact k3, by rw [hlen]; exact k4, k5, by rw [hcs, hsz, ← hsz0]; exact k6, ?_, ?_, k9⟩⟩ k9
            · rw [m3, hsz, Nat.mul_one, Nat.add_zero]
              have := vsplice_take us.toList vs.toList 0 (by simp only [Array.length_toList] at hul ⊢; omega)
              rw [Nat.zero_add, List.take_zero, List.nil_append] at this
              rw [hlen2, ← hul, this]; exact hus
            · intro u hu
              rw [m3] at hu
              rcases vsplice_mem _ _ _ _ hu with hu | hu
              · exact k8 u hu
              · exact hones u hu
      · cases h
    · cases h
  · rename_i T x i t e1 e2
    simp only at e1 e2; subst e1 e2
    cases hbig : bigArr P T <;> rw [hbig] at h <;> simp only [cond_true, cond_false, reduceCtorEq] at h
    split at h
    · rename_i n E hu
      split at h
      · rename_i k sz hx hsz
        cases hb : Nat.beq sz 1 && Nat.blt t s.n <;> rw [hb] at h <;> simp only [cond_true, cond_false, reduceCtorEq] at h
        simp only [Bool.and_eq_true] at hb
        have b1 := Nat.eq_of_beq_eq_true hb.1
        subst b1
        obtain ⟨B, n0, c0, ho, hxe⟩ := ev_ok hr hx
        have hb2 : Nat.blt t s.n = true := hb.2
        have key : ∀ (j : Nat) (kk : IntKind), a.eval i = .int kk (j : Int) → j < n → s' = { s with fr := (t, .oel k 1 j 0) :: s.fr } → oDoes P ⟨some t, .indexAddr T x i, ty, pos, after, guard⟩ a w N := by
          intro j kk hi hj hs'
          have hrun : (execOp a.eval ⟨some t, .indexAddr T x i, ty, pos, after, guard⟩).run P w = .ok (.value (.pointer (some ⟨B, j, none⟩))) w := by
            simp [execOp, hxe, hi, Instr.indexAt, asIntOf, run_underlying' hu, run_sizeOf' hsz, add_plain, Instr.sureAddr, hj]
          refine oDoes_of_wp (by simp) ?_
          unfold Oper.wp
          rw [hrun]
          subst hs'
          exact hN _ _ _ (aval_rel (v := .oel k 1 j 0) hr (by simp only [St.add, hb2, cond_true, List.nil_append]) ⟨B, n0, c0, ho, by simp⟩)
        split at h
        · rename_i kk j hi
          simp only [Option.some.injEq, Prod.mk.injEq, Bool.and_eq_true, decide_eq_true_eq] at h
          obtain ⟨⟨h1, h2⟩, h3⟩ := h
          have hie : a.eval i = .int kk j := evy_ok hr hi
          exact key j.toNat kk (by rw [Int.toNat_of_nonneg h1]; exact hie) (by omega) h3.symm
        · rename_i c hi
          simp only [Option.some.injEq, Prod.mk.injEq, Bool.or_eq_true, decide_eq_true_eq] at h
          obtain ⟨h1, h3⟩ := h
          have hie : a.eval i = .int .u8 c.toNat := evy_ok hr hi
          have hlt : c.toNat < n := by
            rcases h1 with h1 | h1
            · have := Nat.le_of_ble_eq_true h1; have := c.toNat_lt; omega
            · exact h1
          exact key c.toNat .u8 hie hlt h3.symm
        · cases h
      · cases h
    · cases h
  · cases h
end
end Go.Sym
/- Interfaces that are made, and tests for nil of own slices. -/
namespace Go.Sym
open Go.RowKit
variable [LC]

def notIfc : TypeDesc → Bool
  | .interface _ => false
  | _ => true
def nilOp (P : Program) (s : St) (o : Oper) : Option (Bool × St) :=
  match o.op, o.dst with
  | .makeInterface T x, some tt => match s.ev x, P.underlying T with
    | some v, some d => bif notIfc d && Nat.blt tt s.n then some (true, { s with fr := (tt, .iface T v) :: s.fr }) else none
    | _, _ => none
  | .build T parts, some tt => bif bigArr P T then match parts.toList with
    | [] => match P.underlying T with
      | some (.array n E) => match tyOf1 P E, aBuild P s T [] with
        | some τ, some ([], .agg zs) => match τ.zero1 with
          | some z => bif Nat.beq zs.length n && allZero τ zs && Nat.blt tt s.n then some (true, { s with fr := (tt, .arr τ (List.replicate n z)) :: s.fr }) else none
          | none => none
        | _, _ => none
      | _ => none
    | _ => none else none
  | .binOp op t x y _, some tt => match s.ev y, P.underlying t with
    | some (.val (.slice none 0 0)), some (.slice _) => bif Nat.blt tt s.n then (match s.ev x, op with
      | some (.own k), .eql => match look s.hp k with
        | some (.row _ l _) => some (decide (0 < l.length), { s with fr := (tt, .val (.bool false)) :: s.fr })
        | _ => none
      | some (.own k), .neq => match look s.hp k with
        | some (.row _ l _) => some (decide (0 < l.length), { s with fr := (tt, .val (.bool true)) :: s.fr })
        | _ => none
      | some (.val (.slice none 0 0)), .eql => some (true, { s with fr := (tt, .val (.bool true)) :: s.fr })
      | some (.val (.slice none 0 0)), .neq => some (true, { s with fr := (tt, .val (.bool false)) :: s.fr })
      | _, _ => none) else none
    | _, _ => none
  | _, _ => none
omit [LC] in
theorem zeroIs_any {τ : Ty} {x : AV} {z : τ.den} {G G' : Gh} {v : Value} (h : zeroIs τ x = true) (hz : τ.zero1 = some z) (hr : Rep x G v) : Reps (τ.enc z) G' [v] := by
  cases τ with
  | int k =>
    cases x <;> simp only [zeroIs, Bool.false_eq_true, Bool.and_eq_true, decide_eq_true_eq] at h
    obtain ⟨rfl, rfl⟩ := h
    cases hz; exact ⟨hr, trivial⟩
  | byte =>
    cases x <;> simp only [zeroIs, Bool.false_eq_true, decide_eq_true_eq] at h
    subst h
    cases hz; exact ⟨hr, trivial⟩
  | bool =>
    cases x with
    | bool b =>
      cases b
      · cases hz; exact ⟨hr, trivial⟩
      · cases h
    | _ => cases h
  | str =>
    cases x with
    | str l =>
      cases l
      · cases hz; exact ⟨hr, trivial⟩
      · cases h
    | _ => cases h
  | _ => cases hz
omit [LC] in
theorem allZero_any {τ : Ty} {z : τ.den} {G G' : Gh} (hz : τ.zero1 = some z) : ∀ {zs : List AV} {vs : List Value}, allZero τ zs = true → Reps zs G vs → Reps ((List.replicate zs.length z).flatMap τ.enc) G' vs
  | [], [], _, _ => trivial
  | x :: zs, v :: vs, h, hr => by
    simp only [allZero, Bool.and_eq_true] at h
    rw [List.length_cons, List.replicate_succ, List.flatMap_cons]
    exact reps_append (vs := [v]) (zeroIs_any h.1 hz hr.1) (allZero_any hz h.2 hr.2)
  | [], _ :: _, _, h => h.elim
  | _ :: _, [], _, h => h.elim
section
variable {P : Program} {w₀ : World} {G₀ : Gh} {hp₀ : List (Nat × Box)} {G : Gh} {s : St} {a : Act} {w : World}
omit [LC] in
theorem run_eqNilIn {P : Program} {t E : TypeId} (hu : P.underlying t = some (.slice E)) (d : Nat) (x : Option Addr) (n c : Nat) (w : World) (h : x = none → n = 0 ∧ c = 0) :
    (Op.equalIn (d + 1) t (.slice x n c) (.slice none 0 0)).run P w = .ok x.isNone w := by
  cases x with
  | none => obtain ⟨rfl, rfl⟩ := h rfl; simp [Op.equalIn, run_underlying' hu]
  | some a => simp [Op.equalIn, run_underlying' hu]
omit [LC] in
theorem run_eqNil {P : Program} {t E : TypeId} (hu : P.underlying t = some (.slice E)) (x : Option Addr) (n c : Nat) (w : World) (h : x = none → n = 0 ∧ c = 0) :
    (Op.equal t (.slice x n c) (.slice none 0 0)).run P w = .ok x.isNone w := run_eqNilIn hu 9999 x n c w h
theorem nilOp_ok (hr : Rel w₀ G₀ hp₀ G s a w) {o : Oper} {s' : St} (h : nilOp P s o = some (true, s')) {N : Act → World → Prop} (hN : ∀ G' a' w', Rel w₀ G₀ hp₀ G' s' a' w' → N a' w') : oDoes P o a w N := by
  obtain ⟨dst, op, ty, pos, after, guard⟩ := o
  unfold nilOp at h
  split at h
  · rename_i T x tt e1 e2
    simp only at e1 e2; subst e1 e2
    split at h
    · rename_i v d hx hu
      cases hb : notIfc d && Nat.blt tt s.n <;> rw [hb] at h <;> simp only [cond_true, cond_false, reduceCtorEq, Option.some.injEq, Prod.mk.injEq, true_and] at h
      subst h
      simp only [Bool.and_eq_true] at hb
      refine oDoes_of_wp (by simp) ?_
      unfold Oper.wp
      have hrun : (execOp a.eval ⟨some tt, .makeInterface T x, ty, pos, after, guard⟩).run P w = .ok (.value (.iface T (a.eval x))) w := by
        have h1 := hb.1
        cases d <;> simp only [notIfc, Bool.false_eq_true] at h1 <;> simp [execOp, Instr.makeInterface, run_underlying' hu]
      rw [hrun]
      exact hN G _ _ (aval_rel (v := .iface T v) hr (by simp only [St.add, hb.2, cond_true, List.nil_append]) ⟨_, rfl, ev_ok hr hx⟩)
    · cases h
  · rename_i T parts tt e1 e2
    simp only at e1 e2; subst e1 e2
    cases hbig : bigArr P T <;> rw [hbig] at h <;> simp only [cond_true, cond_false, reduceCtorEq] at h
    split at h
    · rename_i hp
      split at h
      · rename_i n E hu
        split at h
        · rename_i τ zs hτ hbu
          split at h
          · rename_i z hz
            cases hb : Nat.beq zs.length n && allZero τ zs && Nat.blt tt s.n <;> rw [hb] at h <;> simp only [cond_true, cond_false, reduceCtorEq, Option.some.injEq, Prod.mk.injEq, true_and] at h
            subst h
            simp only [Bool.and_eq_true] at hb
            have b1 := Nat.eq_of_beq_eq_true hb.1.1
            rw [← hp] at hbu
            obtain ⟨u, hu1, us, rfl, hu3⟩ := aBuild_ok hr hbu
            refine oDoes_of_wp (by simp) ?_
            unfold Oper.wp
            have hrun : (execOp a.eval ⟨some tt, .build T parts, ty, pos, after, guard⟩).run P w = .ok (.value (.agg us)) w := by
              simp only [execOp, Sem.run_bind, hu1, Result.andThen_ok]; rfl
            rw [hrun]
            have hrep := allZero_any (G' := G.data) hz hb.1.2 hu3
            rw [b1] at hrep
            have := reps_arr (zero1_is1 hz) (G := G) hrep
            exact hN G _ _ (aval_rel (v := .arr τ (List.replicate n z)) hr (by simp only [St.add, hb.2, cond_true, List.nil_append]) this)
          · cases h
        · cases h
      · cases h
    · cases h
  · rename_i op t x y p tt e1 e2
    simp only at e1 e2; subst e1 e2
    split at h
    · rename_i E hy hu
      cases hb : Nat.blt tt s.n <;> rw [hb] at h <;> simp only [cond_true, cond_false, reduceCtorEq] at h
      have hye : a.eval y = .slice none 0 0 := ev_ok hr hy
      have go : ∀ (op : BinOp) (q : Bool) (ad : Option Addr) (n c : Nat), a.eval x = .slice ad n c → (ad = none → n = 0 ∧ c = 0) → (op = .eql ∧ q = ad.isNone ∨ op = .neq ∧ q = !ad.isNone) →
          s' = { s with fr := (tt, .val (.bool q)) :: s.fr } → oDoes P ⟨some tt, .binOp op t x y p, ty, pos, after, guard⟩ a w N := by
        intro op q ad n c hxe hnil hq hs'
        subst hs'
        refine oDoes_of_wp (by simp) ?_
        unfold Oper.wp
        have hq' := run_eqNil (P := P) hu ad n c w hnil
        have hrun : (execOp a.eval ⟨some tt, .binOp op t x y p, ty, pos, after, guard⟩).run P w = .ok (.value (.bool q)) w := by
          rcases hq with ⟨rfl, rfl⟩ | ⟨rfl, rfl⟩ <;> simp [execOp, hxe, hye, eqGuard, binOp, hq']
        rw [hrun]
        exact hN G _ _ (aval_rel (v := .val (.bool q)) hr (by simp only [St.add, hb, cond_true, List.nil_append]) rfl)
      have owned : ∀ {k : Nat} {τ : Ty} {l : List τ.den} {E : TypeId}, s.ev x = some (.own k) → look s.hp k = some (.row τ l E) → 0 < l.length → ∃ ad n c, a.eval x = .slice (some ad) n c := by
        intro k τ l E hx hl hpos
        obtain ⟨ad0, n0, c0, o1, hxe⟩ := ev_ok hr hx
        obtain ⟨ad, c', q1, q2⟩ := hr.fin.mem.holds _ _ hl
        rw [o1] at q1; simp only [Option.some.injEq, Prod.mk.injEq] at q1
        obtain ⟨rfl, rfl, rfl⟩ := q1
        rcases q2 with ⟨_, q, _⟩ | ⟨g, vs, fz, rfl, _⟩
        · subst q; simp at hpos
        · exact ⟨_, _, _, hxe⟩
      split at h
      · rename_i k hx
        split at h
        · rename_i hl
          simp only [Option.some.injEq, Prod.mk.injEq, decide_eq_true_eq] at h
          obtain ⟨ad, n, c, he⟩ := owned hx hl h.1
          exact go _ false _ _ _ he (fun q => by cases q) (.inl ⟨rfl, rfl⟩) h.2.symm
        · cases h
      · rename_i k hx
        split at h
        · rename_i hl
          simp only [Option.some.injEq, Prod.mk.injEq, decide_eq_true_eq] at h
          obtain ⟨ad, n, c, he⟩ := owned hx hl h.1
          exact go _ true _ _ _ he (fun q => by cases q) (.inr ⟨rfl, rfl⟩) h.2.symm
        · cases h
      · rename_i hx
        simp only [Option.some.injEq, Prod.mk.injEq, true_and] at h
        exact go _ true _ _ _ (ev_ok hr hx) (fun _ => ⟨rfl, rfl⟩) (.inl ⟨rfl, rfl⟩) h.symm
      · rename_i hx
        simp only [Option.some.injEq, Prod.mk.injEq, true_and] at h
        exact go _ false _ _ _ (ev_ok hr hx) (fun _ => ⟨rfl, rfl⟩) (.inr ⟨rfl, rfl⟩) h.symm
      · cases h
    · cases h
  · cases h
end
end Go.Sym
/- Ranges over strings. -/
namespace Go.Sym
open Go.RowKit
variable [LC]

/-- the character at a place of a string, and its width -/
def rdec (s : List UInt8) (p : Nat) : Nat × Nat := Utf8.decode ⟨s.toArray⟩ p
/-- the text of a character -/
def renc (n : Int) : List UInt8 := (Utf8.encode n).data.toList
def itOp {R : Type} (P : Program) (s : St) (o : Oper) (K : St → Option R) : Option (Option R) :=
  match o.op, o.dst with
  | .range T x, some t => match P.underlying T, s.ev x with
    | some .string, some (.str l) => bif noRange (s.nx + 16 * t) s.hp && Nat.blt t s.n then
        some (K { s with fr := (t, .ptr (s.nx + 16 * t) 0) :: s.fr, hp := (s.nx + 16 * t, .it l 0) :: s.hp }) else none
    | _, _ => none
  | .next x true, some t => match s.ev x with
    | some (.ptr b 0) => match look s.hp b with
      | some (.it l p) => bif Nat.blt t s.n then
          some (bif Nat.blt p l.length then K { s with fr := (t, .tup [.val (.bool true), .int .i64 p, .int .i32 (rdec l p).1]) :: s.fr, hp := (b, .it l (p + (rdec l p).2)) :: s.hp }
            else K { s with fr := (t, .tup [.val (.bool false)]) :: s.fr }) else none
      | _ => none
    | _ => none
  | .convert src dst x, some t => match P.underlying src, P.underlying dst, s.evy x with
    | some _, some .string, some (.int _ n) => bif Nat.blt t s.n then some (K { s with fr := (t, .str (renc n)) :: s.fr }) else none
    | _, _, _ => none
  | _, _ => none
section
variable {P : Program} {w₀ : World} {G₀ : Gh} {hp₀ : List (Nat × Box)} {G : Gh} {s : St} {a : Act} {w : World}
omit [LC] in
theorem bel_put (w : World) (B : Nat) (o : Obj) : Bel (fun b => b = B) w (w.putObj B o) :=
  ⟨rfl, rfl, rfl, by simp, fun k _ hne => World.putObj_heap_other hne⟩
/-- another thing lies in a box -/
theorem Rel.setBox (hr : Rel w₀ G₀ hp₀ G s a w) {n : Nat} {bx bx' : Box} {B : Nat} (hn : look s.hp n = some bx) (hB : G.at n bx = some B) (hB' : ∀ c, G.at n bx' = some c → c = B) {o : Obj}
    (hok : BoxOk G (w.putObj B o) n bx') (hi : ∀ o, G.imm B o = none) : Rel w₀ G₀ hp₀ G { s with hp := (n, bx') :: s.hp } a (w.putObj B o) :=
  ⟨hr.defers, hr.size, hr.frame, fun m hm hl => hr.fresh m hm (by
    simp only [look] at hl
    cases hb : Nat.beq n m
    · rw [hb] at hl; exact hl
    · rw [hb] at hl; cases hl), hr.fin.update' hn hB hB' (bel_put w B o) hok hi⟩
def Gh.addBox (G : Gh) (k : Nat) (B : Nat) : Gh := { imm := G.imm, box := fun m => bif Nat.beq m k then some B else G.box m, own := G.own }
omit [LC] in
theorem Gh.addBox_le {k B : Nat} (h : G.box k = none) : G.le (G.addBox k B) :=
  ⟨fun _ _ _ h => h, fun n B' hn => by
    show (bif Nat.beq n k then some B else G.box n) = _
    cases hb : Nat.beq n k
    · exact hn
    · (have := Nat.eq_of_beq_eq_true hb; subst this; rw [h] at hn; cases hn), fun _ _ h => h⟩
omit [LC] in
theorem Gh.addBox_self {k B : Nat} : (G.addBox k B).box k = some B := by show (bif Nat.beq k k then some B else G.box k) = _; simp
omit [LC] in
theorem Gh.addBox_ne {k B m : Nat} (h : m ≠ k) : (G.addBox k B).box m = G.box m := by
  show (bif Nat.beq m k then some B else G.box m) = _
  cases hb : Nat.beq m k
  · rfl
  · exact absurd (Nat.eq_of_beq_eq_true hb) h
/-- a new box that holds no cells -/
theorem Rel.newBox (hr : Rel w₀ G₀ hp₀ G s a w) {k : Nat} {bx : Box} {o : Obj} (hk : look s.hp k = none) (hkx : s.nx ≤ k) (hat : ∀ b, (G.addBox k w.heap.size).at k bx = some b → b = w.heap.size)
    (hok : BoxOk (G.addBox k w.heap.size) (w.alloc o) k bx) : Rel w₀ G₀ hp₀ (G.addBox k w.heap.size) { s with hp := (k, bx) :: s.hp } a (w.alloc o) := by
  obtain ⟨hkb, hko⟩ := hr.fresh k hkx hk
  have hle : G.le (G.addBox k w.heap.size) := Gh.addBox_le hkb
  have hl1 : ∀ n b, look [(k, bx)] n = some b → n = k ∧ b = bx := fun n b h => by
    simp only [look] at h
    cases hb : Nat.beq k n
    · rw [hb] at h; cases h
    · rw [hb] at h; simp only [cond_true, Option.some.injEq] at h
      exact ⟨(Nat.eq_of_beq_eq_true hb).symm, h.symm⟩
  have hlt : ∀ b o v, G.imm b o = some v → b < w.heap.size := fun b o v h => World.block_lt_of_cell? _ _ (hr.fin.mem.agree _ _ _ h)
  refine ⟨by obtain ⟨bs, h1, h2⟩ := hr.defers; exact ⟨bs, h1, defers_le hle.box h2⟩, hr.size, fun i x hx => by obtain ⟨v, h1, h2⟩ := hr.frame i x hx; exact ⟨v, h1, h2.le hle⟩, fun m hm hl => ?_, ?_⟩
  · simp only [look] at hl
    cases hb : Nat.beq k m
    · rw [hb] at hl
      obtain ⟨h1, h2⟩ := hr.fresh m hm hl
      exact ⟨by rw [Gh.addBox_ne (fun e => by subst e; simp at hb)]; exact h1, h2⟩
    · rw [hb] at hl; cases hl
  · refine hr.fin.extend (new := [(k, bx)]) hle (still_alloc _ _) (fun _ _ _ h => .inl h) (fun b o v h => ?_) hr.fin.mem.one ?_ ?_ ?_
    · rw [World.cell?_alloc_lt _ _ _ (hlt b o v h)]; exact hr.fin.mem.agree _ _ _ h
    · intro n b h
      obtain ⟨rfl, _⟩ := hl1 n b h; exact hk
    · intro n b h
      obtain ⟨rfl, rfl⟩ := hl1 n b h
      exact ⟨hok, fun b hb => by rw [hat b hb]; exact Nat.le_refl _⟩
    · intro n m b b' c h1 h2 _ _
      obtain ⟨rfl, _⟩ := hl1 n b h1
      obtain ⟨rfl, _⟩ := hl1 m b' h2
      rfl

omit [LC] in
theorem size_mk (l : List UInt8) : (⟨l.toArray⟩ : ByteArray).size = l.length := by simp [ByteArray.size]
theorem itOp_ok {R : Type} (hr : Rel w₀ G₀ hp₀ G s a w) {o : Oper} {K : St → Option R} {r : Option R} {x : R} (h : itOp P s o K = some r) (hx : r = some x) {N : Act → World → Prop} (hN : ∀ s', K s' = some x → ∀ G' a' w', Rel w₀ G₀ hp₀ G' s' a' w' → N a' w') : oDoes P o a w N := by
  obtain ⟨dst, op, ty, pos, after, guard⟩ := o
  unfold itOp at h
  split at h
  · rename_i T y t e1 e2
    simp only at e1 e2; subst e1 e2
    split at h
    · rename_i l hu hy
      cases hb : noRange (s.nx + 16 * t) s.hp && Nat.blt t s.n <;> rw [hb] at h <;> simp only [cond_true, cond_false, reduceCtorEq, Option.some.injEq] at h
      simp only [Bool.and_eq_true] at hb
      subst h
      have hk := noRange_look hb.1 _ (Nat.le_refl _) (by omega)
      have he : a.eval y = .string ⟨l.toArray⟩ := ev_ok hr hy
      refine oDoes_of_wp (by simp) ?_
      unfold Oper.wp
      have hrun : (execOp a.eval ⟨some t, .range T y, ty, pos, after, guard⟩).run P w = .ok (.value (.pointer (some ⟨w.heap.size, 0, none⟩))) (w.iter ⟨l.toArray⟩ 0) := by
        simp [execOp, he, run_range_string w T ⟨l.toArray⟩ hu]
      rw [hrun]
      have hr1 := hr.newBox (k := s.nx + 16 * t) (bx := .it l 0) (o := .stringIter ⟨l.toArray⟩ 0) hk (by omega) (fun b hb => by
        have hb : (G.addBox (s.nx + 16 * t) w.heap.size).box (s.nx + 16 * t) = some b := hb
        rw [Gh.addBox_self] at hb; injection hb with hb; exact hb.symm)
        ⟨w.heap.size, Gh.addBox_self, heap_alloc_top _ _, fun o => by
          cases hq : (G.addBox (s.nx + 16 * t) w.heap.size).imm w.heap.size o with
          | none => rfl
          | some v =>
            have := World.block_lt_of_cell? _ _ (hr.fin.mem.agree _ _ _ hq)
            simp at this⟩
      exact hN _ hx _ _ _ (aval_rel (v := .ptr (s.nx + 16 * t) 0) hr1 (by simp only [St.add, hb.2, cond_true, List.nil_append]) ⟨w.heap.size, Gh.addBox_self, rfl⟩)
    · cases h
  · rename_i y t e1 e2
    simp only at e1 e2; subst e1 e2
    split at h
    · rename_i b hy
      split at h
      · rename_i l p hb
        cases ht : Nat.blt t s.n <;> rw [ht] at h <;> simp only [cond_true, cond_false, reduceCtorEq, Option.some.injEq] at h
        subst h
        obtain ⟨B, hB, he⟩ := ev_ok hr hy
        obtain ⟨B', k1, k2, k3⟩ := hr.fin.mem.holds b _ hb
        rw [hB] at k1; injection k1 with k1; subst k1
        refine oDoes_of_wp (by simp) ?_
        unfold Oper.wp
        cases hp : Nat.blt p l.length <;> rw [hp] at hx <;> simp only [cond_true, cond_false] at hx
        · have hp' : ¬ p < (⟨l.toArray⟩ : ByteArray).size := fun hlt => by
            rw [size_mk] at hlt
            have : Nat.blt p l.length = true := Nat.ble_eq_true_of_le hlt
            rw [hp] at this; cases this
          have hrun : (execOp a.eval ⟨some t, .next y true, ty, pos, after, guard⟩).run P w = .ok (.value (.tuple #[.bool false])) w := by
            simp [execOp, he, Instr.next, getObj, Sem.run, k2, hp']
          rw [hrun]
          exact hN _ hx _ _ _ (aval_rel (v := .tup [.val (.bool false)]) hr (by simp only [St.add, ht, cond_true, List.nil_append]) ⟨_, rfl, rfl, trivial⟩)
        · have hp' : p < (⟨l.toArray⟩ : ByteArray).size := by
            rw [size_mk]
            exact Nat.le_of_ble_eq_true hp
          have hlt := (Array.getElem?_eq_some_iff.1 k2).1
          have hrun : (execOp a.eval ⟨some t, .next y true, ty, pos, after, guard⟩).run P w = .ok (.value (.tuple #[.bool true, .int .i64 p, .int .i32 (rdec l p).1])) (w.putObj B (.stringIter ⟨l.toArray⟩ (p + (rdec l p).2))) := by
            simp [execOp, he, Instr.next, getObj, setObj, Sem.run, k2, hp', goInt, rdec, World.putObj]
          rw [hrun]
          have hr1 := hr.setBox (bx' := .it l (p + (rdec l p).2)) (o := .stringIter ⟨l.toArray⟩ (p + (rdec l p).2)) hb (show G.at b (.it l p) = some B from hB) (fun c hc => by
            have hc : G.box b = some c := hc
            rw [hB] at hc; exact (Option.some.inj hc).symm) ⟨B, hB, World.putObj_heap_same hlt, k3⟩ k3
          exact hN _ hx _ _ _ (aval_rel (v := .tup [.val (.bool true), .int .i64 p, .int .i32 (rdec l p).1]) hr1 (by simp only [St.add, ht, cond_true, List.nil_append]) ⟨_, rfl, rfl, rfl, rfl, trivial⟩)
      · cases h
    · cases h
  · rename_i src d y t e1 e2
    simp only at e1 e2; subst e1 e2
    split at h
    · rename_i ds k n hs hd hy
      cases ht : Nat.blt t s.n <;> rw [ht] at h <;> simp only [cond_true, cond_false, reduceCtorEq, Option.some.injEq] at h
      subst h
      have he : a.eval y = .int k n := evy_ok hr hy
      refine oDoes_of_wp (by simp) ?_
      unfold Oper.wp
      have hrun : (execOp a.eval ⟨some t, .convert src d y, ty, pos, after, guard⟩).run P w = .ok (.value (.string ⟨(renc n).toArray⟩)) w := by
        simp [execOp, he, convert, run_underlying hs, run_underlying hd, Conv.intToString, renc]
      rw [hrun]
      exact hN _ hx _ _ _ (aval_rel (v := .str (renc n)) hr (by simp only [St.add, ht, cond_true, List.nil_append]) rfl)
    · cases h
  · cases h
end
end Go.Sym
/- One operation, and a region in the order of the text, with what is emitted. -/
namespace Go.Sym
open Go.RowKit
variable [LC]

/- own slices that a pattern wants to see as data -/
mutual
def ownsOf : AV → List Nat
  | .own k => [k]
  | .agg xs => ownsOfs xs
  | .tup xs => ownsOfs xs
  | .fn _ _ xs => ownsOfs xs
  | _ => []
def ownsOfs : List AV → List Nat
  | [] => []
  | x :: xs => ownsOf x ++ ownsOfs xs
end
mutual
def frzOf : Pt → AV → List Nat
  | .h _, x => ownsOf x
  | .agg ps, x => match x with
    | .agg xs => frzOfs ps xs
    | _ => []
  | .tup ps, x => match x with
    | .tup xs => frzOfs ps xs
    | _ => []
  | .fn _ ps, x => match x with
    | .fn _ _ xs => frzOfs ps xs
    | _ => []
  | _, _ => []
def frzOfs : List Pt → List AV → List Nat
  | [], _ => []
  | p :: ps, xs => match xs with
    | x :: xs => frzOf p x ++ frzOfs ps xs
    | [] => []
end
def frzL : List Nat → St → St
  | [], s => s
  | k :: ks, s => match s.freeze k with
    | some s' => frzL ks s'
    | none => frzL ks s
/- the names that patterns give -/
mutual
def nmP : Pt → AV → NM
  | .ptr b _, x => match asPtr x with
    | some (b', _) => [(b, b')]
    | none => []
  | .own k, x => match asOwn x with
    | some k' => [(k, k')]
    | none => []
  | .el k _, x => match asEl x with
    | some (k', _) => [(k, k')]
    | none => []
  | .iel _ k _, x => match asIEl x with
    | some (_, k', _) => [(k, k')]
    | none => []
  | .yld k, x => match asYld x with
    | some k' => [(k, k')]
    | none => []
  | .agg ps, x => match asAgg x with
    | some xs => nmPs ps xs
    | none => []
  | .tup ps, x => match asTup x with
    | some xs => nmPs ps xs
    | none => []
  | .fn _ ps, x => match asFn x with
    | some (_, xs) => nmPs ps xs
    | none => []
  | _, _ => []
def nmPs : List Pt → List AV → NM
  | [], _ => []
  | p :: ps, xs => match xs with
    | x :: xs => nmP p x ++ nmPs ps xs
    | [] => []
end
def lookB : List (Nat × BPt) → Nat → Option BPt
  | [], _ => none
  | (k, v) :: r, i => bif Nat.beq k i then some v else lookB r i
/- boxes: own slices turned to data, nil to own slices -/
def coB1 (bs : List (Nat × BPt)) (b : Nat) : List Pt → Nat → St → St
  | [], _, s => s
  | p :: ps, off, s => match p, look s.hp b with
    | .own k, some (.cells cs _) => match lookB bs k, cs[off]? with
      | some (.row τ E), some x => bif isNil x then (match s.ownCell b off τ E with
          | some s' => coB1 bs b ps (off + 1) s'
          | none => coB1 bs b ps (off + 1) s) else coB1 bs b ps (off + 1) s
      | _, _ => coB1 bs b ps (off + 1) s
    | p, some (.cells cs _) => match cs[off]? with
      | some x => coB1 bs b ps (off + 1) (frzL (frzOf p x) s)
      | none => coB1 bs b ps (off + 1) s
    | _, _ => coB1 bs b ps (off + 1) s
def coB (bs : List (Nat × BPt)) (nm : NM) : List (Nat × BPt) → St → St
  | [], s => s
  | (n, p) :: r, s => match p, lookN nm n with
    | .cells ps _, some b => coB bs nm r (coB1 bs b ps 0 s)
    | .dat _ _, some b => match look s.hp b with
      | some (.cells cs _) => coB bs nm r (frzL (ownsOfs cs) s)
      | _ => coB bs nm r s
    | _, _ => coB bs nm r s
/- slots -/
def coF (bs : List (Nat × BPt)) : List (Nat × Pt) → St → St
  | [], s => s
  | (i, p) :: r, s => match p, look s.fr i with
    | .own k, some x => bif isNil x then (match lookB bs k with
        | some (.row τ E) => match s.ownNil i τ E with
          | some s' => coF bs r s'
          | none => coF bs r s
        | _ => coF bs r s) else coF bs r s
    | p, some x => coF bs r (frzL (frzOf p x) s)
    | _, none => coF bs r s
def nmF (fr : List (Nat × AV)) : List (Nat × Pt) → NM
  | [] => []
  | (i, p) :: r => match look fr i with
    | some x => nmP p x ++ nmF fr r
    | none => nmF fr r
/-- names by a way through memory -/
def nmH (s : St) : List (Nat × BPt) → NM → NM
  | [], nm => nm
  | (n, p) :: r, nm => match lookN nm n with
    | some b => match p, look s.hp b with
      | .cells ps _, some (.cells cs _) => nmH s r (nm ++ nmPs ps cs)
      | .loop _ _ _ _ fr _ _ D, some (.loop _ _ _ _ fr' _ _ D') => nmH s r (nm ++ ((D, D') :: nmF fr' fr))
      | _, _ => nmH s r nm
    | none => nmH s r nm
def LS.co (ls : LS) (ids : NM) (s : St) : St := coF ls.hp ls.fr (coB ls.hp (nmH s ls.hp (ids ++ nmF s.fr ls.fr)) ls.hp s)

section
variable {P : Program} {w₀ : World} {G₀ : Gh} {hp₀ : List (Nat × Box)} {a : Act} {w : World}
theorem Rel.frzL : ∀ {ks : List Nat} {s : St} {G : Gh}, Rel w₀ G₀ hp₀ G s a w → ∃ G', Rel w₀ G₀ hp₀ G' (frzL ks s) a w
  | [], s, G, hr => ⟨G, hr⟩
  | k :: ks, s, G, hr => by
    simp only [Sym.frzL]
    split
    · rename_i s' h
      obtain ⟨G', hr'⟩ := hr.freeze h
      exact Rel.frzL hr'
    · exact Rel.frzL hr
theorem Rel.coB1 {bs : List (Nat × BPt)} {b : Nat} : ∀ {ps : List Pt} {off : Nat} {s : St} {G : Gh}, Rel w₀ G₀ hp₀ G s a w → ∃ G', Rel w₀ G₀ hp₀ G' (coB1 bs b ps off s) a w
  | [], _, s, G, hr => ⟨G, hr⟩
  | p :: ps, off, s, G, hr => by
    unfold Sym.coB1
    split
    · split
      · rename_i x _ _
        cases hb : isNil x <;> simp only [cond_true, cond_false]
        · exact Rel.coB1 hr
        · split
          · rename_i h
            obtain ⟨G', hr'⟩ := hr.ownCell h
            exact Rel.coB1 hr'
          · exact Rel.coB1 hr
      · exact Rel.coB1 hr
    · split
      · obtain ⟨G', hr'⟩ := hr.frzL
        exact Rel.coB1 hr'
      · exact Rel.coB1 hr
    · exact Rel.coB1 hr
theorem Rel.coB {bs : List (Nat × BPt)} {nm : NM} : ∀ {l : List (Nat × BPt)} {s : St} {G : Gh}, Rel w₀ G₀ hp₀ G s a w → ∃ G', Rel w₀ G₀ hp₀ G' (coB bs nm l s) a w
  | [], s, G, hr => ⟨G, hr⟩
  | (n, p) :: r, s, G, hr => by
    unfold Sym.coB
    split
    · obtain ⟨G', hr'⟩ := hr.coB1
      exact Rel.coB hr'
    · split
      · obtain ⟨G', hr'⟩ := hr.frzL
        exact Rel.coB hr'
      · exact Rel.coB hr
    · exact Rel.coB hr
theorem Rel.coF {bs : List (Nat × BPt)} : ∀ {l : List (Nat × Pt)} {s : St} {G : Gh}, Rel w₀ G₀ hp₀ G s a w → ∃ G', Rel w₀ G₀ hp₀ G' (coF bs l s) a w
  | [], s, G, hr => ⟨G, hr⟩
  | (i, p) :: r, s, G, hr => by
    unfold Sym.coF
    split
    · rename_i x _
      cases hb : isNil x <;> simp only [cond_true, cond_false]
      · exact Rel.coF hr
      · split
        · split
          · rename_i h
            obtain ⟨G', hr'⟩ := hr.ownNil h
            exact Rel.coF hr'
          · exact Rel.coF hr
        · exact Rel.coF hr
    · obtain ⟨G', hr'⟩ := hr.frzL
      exact Rel.coF hr'
    · exact Rel.coF hr
theorem Rel.co {s : St} {G : Gh} (hr : Rel w₀ G₀ hp₀ G s a w) (ls : LS) (ids : NM) : ∃ G', Rel w₀ G₀ hp₀ G' (ls.co ids s) a w := by
  obtain ⟨G', hr'⟩ := hr.coB (bs := ls.hp) (nm := nmH s ls.hp (ids ++ nmF s.fr ls.fr)) (l := ls.hp)
  exact hr'.coF
end

def nmY (k : Key) (m : Nat) : NM := match k with
  | .yld m' => [(m', m)]
  | _ => []
/-- entries for a callee -/
def entFor (g : Ent → Bool) : List Ent → Option Ent
  | [] => none
  | e :: es => bif g e then some e else entFor g es
/-- own slices that a callee wants to see as data -/
def coer (tb : Tb) (s : St) (op : Op) : Option St :=
  match op with
  | .call { callee := .value g, args, argTypes := _ } => match s.ev g, s.evs args.toList with
    | some (.fn (.func f) [] cap), some xs => match entFor (fun e => keyIs f e.key) tb.ents with
      | some e => some (coB e.hp (nmH s e.hp (nmPs e.args (xs ++ cap))) e.hp (frzL (frzOfs e.args (xs ++ cap)) s))
      | none => none
    | some (.yld m), some ys => match look s.hp m with
      | some (.loop _ _ _ _ _ _ tag _) => match entFor (fun e => match e.key with
          | .yld m' => match lookB e.hp m' with
            | some (.loop _ _ _ _ _ _ tag' _) => Nat.beq tag' tag
            | _ => false
          | _ => false) tb.ents with
        | some e => some (coB e.hp (nmH s e.hp (nmY e.key m ++ nmPs e.args ys)) e.hp (frzL (frzOfs e.args ys) s))
        | none => none
      | _ => none
    | _, _ => none
  | .slice _ x _ _ _ => match s.ev x with
    | some (.own k) => some (frzL [k] s)
    | _ => none
  | _ => none
def exq {R : Type} (P : Program) (tb : Tb) (s : St) (o : Oper) (K : St → Option R) : Option R :=
  match areq P tb s o.op with
  | some q => q.K fun d => match aex P s d o with
    | some (_, s') => K s'
    | none => none
  | none => none
def isSomeQ : Option Rq → Bool
  | some _ => true
  | none => false
def ex1 {R : Type} (P : Program) (tb : Tb) (s : St) (o : Oper) (K : St → Option R) : Option R :=
  match itOp P s o K with
  | some r => r
  | none => match nilOp P s o with
  | some (b, s') => bif b then K s' else none
  | none => match arrOp P s o with
  | some (b, s') => bif b then K s' else none
  | none => match fixOp P s o with
  | some (b, s') => bif b then K s' else none
  | none => match extOp tb s o K with
  | some r => r
  | none => match subOp P tb s o with
  | some (b, s') => bif b then K s' else none
  | none => bif isSomeQ (areq P tb s o.op) then exq P tb s o K else
    match coer tb s o.op with
    | some s' => exq P tb s' o K
    | none => none
/-- a truth value of a slot, known now -/
def St.know (s : St) (x : Operand) (b : Bool) : St := match x with
  | .tmp t => bif Nat.blt t s.n then { s with fr := (t, .val (.bool b)) :: s.fr } else s
  | _ => s
def dstOf (ops : Array Oper) (j : Nat) : Operand := match ops[j]? with
  | some o => match o.dst with
    | some t => .tmp t
    | none => .const undef
  | none => .const undef
def op1 {R : Type} (P : Program) (tb : Tb) (ops : Array Oper) (s : St) (o : Oper) (K : St → Option R) : Option R :=
  match o.guard with
  | none => ex1 P tb s o K
  | some (j, want) => match guardOf ops s j with
    | none => none
    | some none => match s.add o.dst (.val undef) [] with
      | some s' => K s'
      | none => none
    | some (some b) => bif b then
        (bif want then ex1 P tb (s.know (dstOf ops j) true) o K else match (s.know (dstOf ops j) true).add o.dst (.val undef) [] with
          | some s' => K s'
          | none => none)
      else (bif want then (match (s.know (dstOf ops j) false).add o.dst (.val undef) [] with
          | some s' => K s'
          | none => none) else ex1 P tb (s.know (dstOf ops j) false) o K)
def opsR {R : Type} (P : Program) (tb : Tb) (ops : Array Oper) : List Oper → St → (St → Option R) → Option R
  | [], s, K => K s
  | o :: l, s, K => op1 P tb ops s o fun s' => opsR P tb ops l s' K

section
variable {P : Program} {w₀ : World} {G₀ : Gh} {hp₀ : List (Nat × Box)} {G : Gh} {a : Act} {w : World} {R : Type} {tb : Tb} {s : St}
theorem exq_ok (hT : ∀ e ∈ tb.ents, e.Sound P) (hr : Rel w₀ G₀ hp₀ G s a w) {o : Oper} {K : St → Option R} {x : R} (h : exq P tb s o K = some x) {N : Act → World → Prop} (hN : ∀ s', K s' = some x → ∀ G' a' w', Rel w₀ G₀ hp₀ G' s' a' w' → N a' w') : oDoes P o a w N := by
  unfold exq at h
  split at h
  · rename_i q hq
    obtain ⟨d, h1, h2⟩ := Rq.K_some h
    split at h2
    · rename_i ps s' ha
      exact aex_ok hr ha (areq_ok hT hq h1 ha) (hN s' h2)
    · cases h2
  · cases h
theorem ex1_ok (hT : ∀ e ∈ tb.ents, e.Sound P) (hr : Rel w₀ G₀ hp₀ G s a w) {o : Oper} {K : St → Option R} {x : R} (h : ex1 P tb s o K = some x) {N : Act → World → Prop} (hN : ∀ s', K s' = some x → ∀ G' a' w', Rel w₀ G₀ hp₀ G' s' a' w' → N a' w') : oDoes P o a w N := by
  unfold ex1 at h
  split at h
  · rename_i r' hs
    exact itOp_ok hr hs h hN
  split at h
  · rename_i b s' hs
    cases b <;> simp only [cond_true, cond_false, reduceCtorEq] at h
    exact nilOp_ok hr hs (hN s' h)
  split at h
  · rename_i b s' hs
    cases b <;> simp only [cond_true, cond_false, reduceCtorEq] at h
    exact arrOp_ok hr hs (hN s' h)
  split at h
  · rename_i b s' hs
    cases b <;> simp only [cond_true, cond_false, reduceCtorEq] at h
    exact fixOp_ok hr hs (hN s' h)
  split at h
  · rename_i r' hs
    exact extOp_ok hT hr hs h hN
  split at h
  · rename_i b s' hs
    cases b <;> simp only [cond_true, cond_false, reduceCtorEq] at h
    exact subOp_ok hr hs (hN s' h)
  cases hq : isSomeQ (areq P tb s o.op) <;> rw [hq] at h <;> simp only [cond_true, cond_false] at h
  · split at h
    · rename_i s' hs
      have : ∃ G', Rel w₀ G₀ hp₀ G' s' a w := by
        unfold coer at hs
        split at hs
        · split at hs
          · split at hs
            · simp only [Option.some.injEq] at hs; subst hs
              obtain ⟨G1, hr1⟩ := hr.frzL
              exact hr1.coB
            · cases hs
          · split at hs
            · split at hs
              · simp only [Option.some.injEq] at hs; subst hs
                obtain ⟨G1, hr1⟩ := hr.frzL
                exact hr1.coB
              · cases hs
            · cases hs
          · cases hs
        · split at hs
          · simp only [Option.some.injEq] at hs; subst hs; exact hr.frzL
          · cases hs
        · cases hs
      obtain ⟨G', hr'⟩ := this
      exact exq_ok hT hr' h hN
    · cases h
  · exact exq_ok hT hr h hN
theorem Rel.know (hr : Rel w₀ G₀ hp₀ G s a w) {x : Operand} {b : Bool} (h : a.eval x = .bool b) : Rel w₀ G₀ hp₀ G (s.know x b) a w := by
  unfold St.know
  split
  · rename_i t
    cases hb : Nat.blt t s.n
    · exact hr
    · refine ⟨hr.defers, hr.size, fun i y hy => ?_, hr.fresh, hr.fin⟩
      simp only [cond_true, look] at hy
      cases hq : Nat.beq t i
      · rw [hq] at hy; exact hr.frame i y hy
      · rw [hq] at hy; simp only [cond_true, Option.some.injEq] at hy; subst hy
        have := Nat.eq_of_beq_eq_true hq; subst this
        have hlt : t < a.tmps.size := by rw [hr.size]; exact Nat.lt_of_lt_of_le (Nat.lt_succ_self t) (Nat.le_of_ble_eq_true hb)
        refine ⟨a.tmps[t], by simp [hlt], ?_⟩
        have h : a.tmps.getD t undef = .bool b := h
        simp only [Array.getD, hlt, dif_pos] at h
        exact h
  · exact hr
omit [LC] in
theorem yielded_dst {ops : Array Oper} {j : Nat} {b : Bool} (h : yielded ops a.tmps j = some b) : a.eval (dstOf ops j) = .bool b := by
  unfold dstOf
  unfold yielded at h
  cases ho : ops[j]? with
  | none => rw [ho] at h; simp at h
  | some o =>
    rw [ho] at h
    cases hd : o.dst with
    | none => simp [hd] at h
    | some t =>
      simp only [hd, Option.bind_some] at h ⊢
      show a.tmps.getD t undef = _
      rw [Array.getD_eq_getD_getElem?]
      cases hv : a.tmps[t]? with
      | none => rw [hv] at h; simp at h
      | some v =>
        rw [hv] at h
        simp only [Option.getD_some] at h ⊢
        split at h
        · rename_i e; simp only [Option.some.injEq] at h; subst h; exact Option.some.inj e
        · cases h
theorem Rel.skip (hr : Rel w₀ G₀ hp₀ G s a w) {dst : Option Tmp} {s' : St} (h : s.add dst (.val undef) [] = some s') : Rel w₀ G₀ hp₀ G s' (a.put dst undef) w := aval_rel hr h rfl
theorem op1_ok (hT : ∀ e ∈ tb.ents, e.Sound P) (hr : Rel w₀ G₀ hp₀ G s a w) {ops : Array Oper} {i : Nat} {o : Oper} (ho : ops[i]? = some o) {K : St → Option R} {x : R} (h : op1 P tb ops s o K = some x) {N : Act → World → Prop} (hN : ∀ s', K s' = some x → ∀ G' a' w', Rel w₀ G₀ hp₀ G' s' a' w' → N a' w') : dOp P ops i N a w := by
  have skip : ∀ {s : St}, Rel w₀ G₀ hp₀ G s a w → (match s.add o.dst (.val undef) [] with | some s' => K s' | none => none) = some x → ¬ Region.wanted o (yielded ops a.tmps) = true → dOp P ops i N a w := fun hr h hw => by
    split at h
    · rename_i s' hs
      exact dOp_skip ho hw (hN s' h _ _ _ (hr.skip hs))
    · cases h
  unfold op1 at h
  split at h
  · rename_i hg
    exact dOp_of ho (by simp [Region.wanted, hg]) (ex1_ok hT hr h hN)
  · rename_i j want hg
    split at h
    · cases h
    · rename_i hgo
      have hy := guardOf_ok hr hgo
      exact skip hr h (by simp [Region.wanted, hg, hy])
    · rename_i b hgo
      have hy := guardOf_ok hr hgo
      have hk := hr.know (yielded_dst hy)
      cases b <;> cases want <;> simp only [cond_true, cond_false] at h
      · exact dOp_of ho (by simp [Region.wanted, hg, hy]) (ex1_ok hT hk h hN)
      · exact skip hk h (by simp [Region.wanted, hg, hy])
      · exact skip hk h (by simp [Region.wanted, hg, hy])
      · exact dOp_of ho (by simp [Region.wanted, hg, hy]) (ex1_ok hT hk h hN)
theorem opsR_ok (hT : ∀ e ∈ tb.ents, e.Sound P) {ops : Array Oper} {K : St → Option R} {x : R} {N : Act → World → Prop} (hN : ∀ s', K s' = some x → ∀ G' a' w', Rel w₀ G₀ hp₀ G' s' a' w' → N a' w') :
    ∀ (l : List Oper) (i : Nat) (s : St) (G : Gh) (a : Act) (w : World), (∀ j, j < l.length → ops[i + j]? = l[j]?) → opsR P tb ops l s K = some x → Rel w₀ G₀ hp₀ G s a w → dOps P ops N (List.range' i l.length) a w
  | [], i, s, G, a, w, _, h, hr => hN s h G a w hr
  | o :: l, i, s, G, a, w, hl, h, hr => by
    simp only [List.length_cons, List.range'_succ, dOps]
    exact op1_ok hT hr (by have := hl 0 (by simp); simpa using this) h (fun s' h' G' a' w' hr' => opsR_ok hT hN l (i + 1) s' G' a' w' (fun j hj => by have := hl (j + 1) (by simp; omega); simpa [Nat.add_assoc, Nat.add_comm 1 j] using this) h' hr')
end
end Go.Sym
/- A region that draws its order, with what is emitted. -/
namespace Go.Sym
open Go.RowKit
variable [LC]

def lookK : List (Nat × Bool) → Nat → Option Bool
  | [], _ => none
  | (k, v) :: r, i => bif Nat.beq k i then some v else lookK r i
def rsIx (t : Nat) : List HR → Nat → Option Nat
  | [], _ => none
  | r :: rs, j => bif Nat.beq r.dst t then some j else rsIx t rs (j + 1)
def knPick (pred : List Nat) (Rs : List HR) (kn : List (Nat × Bool)) (op : Op) : Option Bool :=
  match op with
  | .pick (.tmp c) _ _ => match rsIx c Rs 0 with
    | some j => bif memN pred j then lookK kn j else none
    | none => none
  | _ => none
def areqK (P : Program) (tb : Tb) (t : St) (pred : List Nat) (Rs : List HR) (kn : List (Nat × Bool)) (op : Op) : Option Rq :=
  match knPick pred Rs kn op with
  | some d => some (.tot (.b d))
  | none => areq P tb t op
def exH {R : Type} (P : Program) (tb : Tb) (t : St) (pred : List Nat) (Rs : List HR) (kn : List (Nat × Bool)) (o : Oper) (K : AV → List (Nat × Box) → Option R) : Option R :=
  match areqK P tb t pred Rs kn o.op with
  | some q => q.K fun d => match aadd P t d o with
    | some (_, v, new) => K v new
    | none => none
  | none => none
def isBool : AV → Bool
  | .bool _ => true
  | _ => false
def addK (pred : List Nat) (Rs : List HR) (j : Nat) (d : Bool) (kn : List (Nat × Bool)) : List (Nat × Bool) := match Rs[j]? with
  | some r => bif memN pred j && isBool r.v then (j, d) :: kn else kn
  | none => kn
def opH {R : Type} (P : Program) (tb : Tb) (ops : Array Oper) (t : St) (pred : List Nat) (Rs : List HR) (kn : List (Nat × Bool)) (o : Oper) (K : AV → List (Nat × Box) → List (Nat × Bool) → Option R) : Option R :=
  match o.guard with
  | none => exH P tb t pred Rs kn o fun v new => K v new kn
  | some (j, want) => match guardOf ops t j with
    | none => none
    | some none => K (.val undef) [] kn
    | some (some b) => match (bif memN pred j then lookK kn j else none) with
      | some d => bif d == want then (exH P tb t pred Rs kn o fun v new => K v new kn) else K (.val undef) [] kn
      | none => bif b then (bif want then (exH P tb t pred Rs (addK pred Rs j true kn) o fun v new => K v new (addK pred Rs j true kn)) else K (.val undef) [] (addK pred Rs j true kn))
        else (bif want then K (.val undef) [] (addK pred Rs j false kn) else (exH P tb t pred Rs (addK pred Rs j false kn) o fun v new => K v new (addK pred Rs j false kn)))
def headR {R : Type} (P : Program) (tb : Tb) (ops : Array Oper) (s : St) (K : List HR → List (Nat × Bool) → Option R) : List Oper → Nat → List HR → List (Nat × Bool) → Option R
  | [], _, Rs, kn => K Rs kn
  | o :: l, i, Rs, kn => match o.dst, predsOf Rs o.after.toList with
    | some d, some pred => bif Nat.blt d s.n && noRange (s.nx + 16 * d) s.hp && freshDst d Rs && readsFine pred (readsOf ops o) Rs 0 && writesFine ops d pred i then
        opH P tb ops (addSel pred Rs 0 s) pred Rs kn o fun v new kn' => headR P tb ops s K l (i + 1) (Rs ++ [⟨d, v, new, pred⟩]) kn'
      else none
    | _, _ => none
/-- where the tail begins -/
def chainStart : List Oper → Nat → Nat
  | [], n => n
  | o :: l, n => bif Nat.ble 2 n && waitsOn o (n - 2) then chainStart l (n - 1) else n - 1
def findTail (ops : Array Oper) : List Oper → Nat → Nat
  | [], n => n
  | o :: l, n => bif reachAll ops o n then n else findTail ops l (n + 1)
def headLen (ops : Array Oper) : Nat := findTail ops (ops.toList.drop (chainStart ops.toList.reverse ops.toList.length)) (chainStart ops.toList.reverse ops.toList.length)
/-- what is known of guards -/
def knows (Rs : List HR) (kn : List (Nat × Bool)) : List (Nat × Bool) → St → St
  | [], s => s
  | (j, _) :: l, s => match lookK kn j, Rs[j]? with
    | some d, some r => (knows Rs kn l s).know (.tmp r.dst) d
    | _, _ => knows Rs kn l s
def drawR {R : Type} (P : Program) (tb : Tb) (ops : Array Oper) (s : St) (K : St → Option R) : Option R :=
  bif edgesFine ops.toList 0 && tailFine ops (headLen ops) && Nat.ble (headLen ops) ops.toList.length then
    headR P tb ops s (fun Rs kn => opsR P tb ops (ops.toList.drop (headLen ops)) (knows Rs kn kn (addAll Rs s)) K) (ops.toList.take (headLen ops)) 0 [] []
  else none

section
variable {P : Program} {w₀ : World} {G₀ : Gh} {hp₀ : List (Nat × Box)} {G : Gh} {a : Act} {w : World} {R : Type} {tb : Tb} {s : St}
def KnOk (Rs : List HR) (kn : List (Nat × Bool)) : Prop := ∀ j d, lookK kn j = some d → ∃ r, Rs[j]? = some r ∧ r.v = .bool d
omit [LC] in
theorem addK_ok {pred : List Nat} {Rs : List HR} {j : Nat} {d : Bool} {kn : List (Nat × Bool)} (hk : KnOk Rs kn) (h : ∀ r, Rs[j]? = some r → memN pred j = true → isBool r.v = true → r.v = .bool d) : KnOk Rs (addK pred Rs j d kn) := by
  unfold addK
  split
  · rename_i r hr
    cases hb : memN pred j && isBool r.v
    · exact hk
    · simp only [Bool.and_eq_true] at hb
      intro j' d' h'
      simp only [cond_true, lookK] at h'
      cases hq : Nat.beq j j'
      · rw [hq] at h'; exact hk j' d' h'
      · rw [hq] at h'; simp only [cond_true, Option.some.injEq] at h'; subst h'
        have := Nat.eq_of_beq_eq_true hq; subst this
        exact ⟨r, hr, h r hr hb.1 hb.2⟩
  · exact hk
omit [LC] in
theorem rsIx_spec {t : Nat} : ∀ {rs : List HR} {j0 j : Nat}, rsIx t rs j0 = some j → ∃ k r, j = j0 + k ∧ rs[k]? = some r ∧ r.dst = t
  | [], j0, j, h => by cases h
  | r :: rs, j0, j, h => by
    simp only [rsIx] at h
    cases hq : Nat.beq r.dst t
    · rw [hq] at h
      obtain ⟨k, r', h1, h2, h3⟩ := rsIx_spec h
      exact ⟨k + 1, r', by omega, by simpa using h2, h3⟩
    · rw [hq] at h; simp only [cond_true, Option.some.injEq] at h
      exact ⟨0, r, by omega, by simp, Nat.eq_of_beq_eq_true hq⟩
theorem exH_ok (hT : ∀ e ∈ tb.ents, e.Sound P) {t : St} {pred : List Nat} {Rs : List HR} {kn : List (Nat × Bool)} {o : Oper} {K : AV → List (Nat × Box) → Option R} {x : R} (hkn : KnOk Rs kn) (hv : ∀ j r, memN pred j = true → Rs[j]? = some r → look t.fr r.dst = some r.v)
    (h : exH P tb t pred Rs kn o K = some x) : ∃ ps d v new, aadd P t d o = some (ps, v, new) ∧ Alls ps ∧ K v new = some x := by
  unfold exH at h
  split at h
  · rename_i q hq
    obtain ⟨d, h1, h2⟩ := Rq.K_some h
    split at h2
    · rename_i ps v new ha
      refine ⟨ps, d, v, new, ha, ?_, h2⟩
      unfold areqK at hq
      split at hq
      · rename_i d' hd
        simp only [Option.some.injEq] at hq; subst hq
        have h1 : d = .b d' := h1
        subst h1
        unfold knPick at hd
        split at hd
        · rename_i c y z hop
          split at hd
          · rename_i j hj
            obtain ⟨k, r, rfl, i1, i2⟩ := rsIx_spec hj
            rw [Nat.zero_add] at hd
            cases hm : memN pred k <;> rw [hm] at hd <;> simp only [cond_true, cond_false, reduceCtorEq] at hd
            obtain ⟨r', j1, j2⟩ := hkn k d' hd
            rw [i1] at j1; have := Option.some.inj j1; subst this
            have hl := hv k r hm i1
            rw [i2, j2] at hl
            unfold aadd at ha
            rw [hop] at ha
            have hev : t.ev (.tmp c) = some (.bool d') := hl
            simp only [aval, hev] at ha
            split at ha
            · rename_i ps1 v1 e
              simp only [Option.some.injEq, Prod.mk.injEq] at ha; obtain ⟨rfl, _, _⟩ := ha
              split at e
              · simp only [Option.some.injEq, Prod.mk.injEq] at e; obtain ⟨rfl, _⟩ := e
                exact ⟨trivial, trivial⟩
              · cases e
            · unfold anew at ha
              rw [hop] at ha
              cases ha
          · cases hd
        · cases hd
      · exact areq_add hT hq h1 ha
    · cases h2
  · cases h
theorem opH_ok (hT : ∀ e ∈ tb.ents, e.Sound P) {ops : Array Oper} {t : St} {pred : List Nat} {Rs : List HR} {kn : List (Nat × Bool)} {o : Oper} {K : AV → List (Nat × Box) → List (Nat × Bool) → Option R} {x : R} (hkn : KnOk Rs kn)
    (hv : ∀ j r, memN pred j = true → Rs[j]? = some r → look t.fr r.dst = some r.v) (hd : ∀ (j : Nat) (r : HR), memN pred j = true → Rs[j]? = some r → ∃ oj : Oper, ops[j]? = some oj ∧ oj.dst = some r.dst)
    (h : opH P tb ops t pred Rs kn o K = some x) : ∃ ps, ∃ c : Dec, ∃ v new kn', astepH P ops t c o = some (ps, v, new) ∧ Alls ps ∧ KnOk Rs kn' ∧ K v new kn' = some x := by
  unfold opH at h
  unfold astepH
  split at h
  · rename_i hg
    obtain ⟨ps, d, v, new, h1, h2, h3⟩ := exH_ok hT hkn hv h
    exact ⟨ps, (false, d), v, new, kn, by rw [hg]; exact h1, h2, hkn, h3⟩
  · rename_i j want hg
    split at h
    · cases h
    · rename_i hgo
      exact ⟨[], (false, .none), _, _, kn, by simp [hg, hgo], trivial, hkn, h⟩
    · rename_i b hgo
      have hb : ∀ r, Rs[j]? = some r → memN pred j = true → isBool r.v = true → r.v = .bool b := fun r hr hm hi => by
        obtain ⟨oj, k1, k2⟩ := hd j r hm hr
        have hl := hv j r hm hr
        unfold guardOf at hgo
        simp only [k1, k2, hl] at hgo
        cases hrv : r.v <;> rw [hrv] at hi <;> simp only [isBool, Bool.false_eq_true] at hi
        rw [hrv] at hgo
        simp only [Option.some.injEq] at hgo; subst hgo; rfl
      split at h
      · rename_i d hkd
        cases hm : memN pred j <;> rw [hm] at hkd <;> simp only [cond_true, cond_false, reduceCtorEq] at hkd
        obtain ⟨r, i1, i2⟩ := hkn j d hkd
        have hbd : b = d := by
          have := hb r i1 hm (by rw [i2]; rfl)
          rw [i2] at this; simpa using this.symm
        cases hw : d == want <;> rw [hw] at h <;> simp only [cond_true, cond_false] at h
        · exact ⟨[b = d], (d, .none), _, _, kn, by simp [hg, hgo, hw], ⟨hbd, trivial⟩, hkn, h⟩
        · obtain ⟨ps, d', v, new, h1, h2, h3⟩ := exH_ok hT hkn hv h
          exact ⟨(b = d) :: ps, (d, d'), v, new, kn, by simp [hg, hgo, hw, h1], ⟨hbd, h2⟩, hkn, h3⟩
      · have hkn' : ∀ d, b = d → KnOk Rs (addK pred Rs j d kn) := fun d e => addK_ok hkn (by subst e; exact hb)
        cases b <;> cases want <;> simp only [cond_true, cond_false] at h
        · obtain ⟨ps, d', v, new, h1, h2, h3⟩ := exH_ok hT (hkn' false rfl) hv h
          exact ⟨(false = false) :: ps, (false, d'), v, new, _, by simp [hg, hgo, h1], ⟨rfl, h2⟩, hkn' false rfl, h3⟩
        · exact ⟨[false = false], (false, .none), _, _, _, by simp [hg, hgo], ⟨rfl, trivial⟩, hkn' false rfl, h⟩
        · exact ⟨[true = true], (true, .none), _, _, _, by simp [hg, hgo], ⟨rfl, trivial⟩, hkn' true rfl, h⟩
        · obtain ⟨ps, d', v, new, h1, h2, h3⟩ := exH_ok hT (hkn' true rfl) hv h
          exact ⟨(true = true) :: ps, (true, d'), v, new, _, by simp [hg, hgo, h1], ⟨rfl, h2⟩, hkn' true rfl, h3⟩
omit [LC] in
theorem addSel_out {sel : List Nat} {d : Nat} : ∀ {rs : List HR} {j : Nat} {t : St}, (∀ r ∈ rs, r.dst ≠ d) → look (addSel sel rs j t).fr d = look t.fr d
  | [], _, _, _ => rfl
  | r :: rs, j, t, h => by
    simp only [addSel]
    rw [addSel_out (fun r' hr' => h r' (List.mem_cons_of_mem _ hr'))]
    cases memN sel j
    · rfl
    · simp only [cond_true, St.addR, look]
      have := h r List.mem_cons_self
      cases hq : Nat.beq r.dst d
      · rfl
      · exact absurd (Nat.eq_of_beq_eq_true hq) this
omit [LC] in
theorem addSel_in {sel : List Nat} : ∀ {rs : List HR} {j k : Nat} {t : St} {r : HR}, rs[k]? = some r → memN sel (j + k) = true → (∀ k' r', k < k' → rs[k']? = some r' → r'.dst ≠ r.dst) → look (addSel sel rs j t).fr r.dst = some r.v
  | [], _, _, _, _, h, _, _ => by simp at h
  | r0 :: rs, j, 0, t, r, h, hm, hd => by
    simp only [List.getElem?_cons_zero, Option.some.injEq] at h; subst h
    simp only [addSel]
    rw [addSel_out (fun r' hr' => by
      obtain ⟨k, hk⟩ := List.getElem?_of_mem hr'
      exact hd (k + 1) r' (by omega) (by simpa using hk))]
    rw [Nat.add_zero] at hm
    rw [hm]
    simp [St.addR, look]
  | r0 :: rs, j, k + 1, t, r, h, hm, hd => by
    simp only [addSel]
    exact addSel_in (k := k) (by simpa using h) (by rw [show j + 1 + k = j + (k + 1) by omega]; exact hm) (fun k' r' hk hr' => hd (k' + 1) r' (by omega) (by simpa using hr'))
omit [LC] in
theorem addAll_out {d : Nat} : ∀ {rs : List HR} {t : St}, (∀ r ∈ rs, r.dst ≠ d) → look (addAll rs t).fr d = look t.fr d
  | [], _, _ => rfl
  | r :: rs, t, h => by
    simp only [addAll]
    rw [addAll_out (fun r' hr' => h r' (List.mem_cons_of_mem _ hr'))]
    show (bif Nat.beq r.dst d then some r.v else look t.fr d) = _
    cases hb : Nat.beq r.dst d
    · rfl
    · exact absurd (Nat.eq_of_beq_eq_true hb) (h r List.mem_cons_self)
omit [LC] in
theorem addAll_in : ∀ {rs : List HR} {k : Nat} {t : St} {r : HR}, rs[k]? = some r → (∀ k' r', k < k' → rs[k']? = some r' → r'.dst ≠ r.dst) → look (addAll rs t).fr r.dst = some r.v
  | [], _, _, _, h, _ => by simp at h
  | r0 :: rs, 0, t, r, h, hd => by
    simp only [List.getElem?_cons_zero, Option.some.injEq] at h; subst h
    simp only [addAll]
    rw [addAll_out (fun r' hr' => by
      obtain ⟨k, hk⟩ := List.getElem?_of_mem hr'
      exact hd (k + 1) r' (by omega) (by simpa using hk))]
    show (bif Nat.beq r0.dst r0.dst then some r0.v else look t.fr r0.dst) = _
    simp
  | r0 :: rs, k + 1, t, r, h, hd => by
    simp only [addAll]
    exact addAll_in (k := k) (by simpa using h) (fun k' r' hk hr' => hd (k' + 1) r' (by omega) (by simpa using hr'))
theorem knows_ok {Rs : List HR} (hdis : ∀ (k k' : Nat) (r r' : HR), k < k' → Rs[k]? = some r → Rs[k']? = some r' → r'.dst ≠ r.dst) (hr : Rel w₀ G₀ hp₀ G (addAll Rs s) a w) {kn : List (Nat × Bool)} (hkn : KnOk Rs kn) : ∀ {l : List (Nat × Bool)}, Rel w₀ G₀ hp₀ G (knows Rs kn l (addAll Rs s)) a w
  | [] => hr
  | (j, _) :: l => by
    have ih := knows_ok hdis hr hkn (l := l)
    unfold knows
    split
    · rename_i d r h0 h1
      obtain ⟨r', i1, h2⟩ := hkn j d h0
      rw [h1] at i1; have := Option.some.inj i1; subst this
      refine ih.know ?_
      obtain ⟨v, v1, v2⟩ := hr.frame r.dst _ (addAll_in h1 (fun k' r' hk hr' => hdis j k' r r' hk h1 hr'))
      rw [h2] at v2
      have v2 : v = .bool d := v2
      subst v2
      show a.tmps.getD r.dst undef = _
      rw [Array.getD_eq_getD_getElem?, v1]; rfl
    · exact ih
theorem headR_ok (hT : ∀ e ∈ tb.ents, e.Sound P) {ops : Array Oper} {K : List HR → List (Nat × Bool) → Option R} {x : R} : ∀ (l : List Oper) (i : Nat) (Rs : List HR) (kn : List (Nat × Bool)), (∀ j, j < l.length → ops[i + j]? = l[j]?) → Rs.length = i → KnOk Rs kn →
    (∀ j o, j < i → ops[j]? = some o → HOk P ops s Rs j o) → headR P tb ops s K l i Rs kn = some x → ∃ Rs' kn', K Rs' kn' = some x ∧ KnOk Rs' kn' ∧ Rs'.length = i + l.length ∧ ∀ j o, j < i + l.length → ops[j]? = some o → HOk P ops s Rs' j o
  | [], i, Rs, kn, _, hlen, hkn, hH, h => ⟨Rs, kn, h, hkn, hlen, hH⟩
  | o :: l, i, Rs, kn, hl, hlen, hkn, hH, h => by
    have ho : ops[i]? = some o := by have := hl 0 (by simp); simpa using this
    have hops : ∀ j, j < i → ∃ oj, ops[j]? = some oj := fun j hj => by
      have : i < ops.size := (Array.getElem?_eq_some_iff.1 ho).1
      exact ⟨ops[j], by simp [show j < ops.size by omega]⟩
    simp only [headR] at h
    split at h
    · rename_i d pred hd hp
      cases hb : Nat.blt d s.n && noRange (s.nx + 16 * d) s.hp && freshDst d Rs && readsFine pred (readsOf ops o) Rs 0 && writesFine ops d pred i <;> rw [hb] at h <;> simp only [cond_true, cond_false, reduceCtorEq] at h
      simp only [Bool.and_eq_true] at hb
      obtain ⟨⟨⟨⟨b1, b2⟩, b3⟩, b4⟩, b5⟩ := hb
      have hdst : ∀ (j : Nat) (r : HR), Rs[j]? = some r → ∃ oj : Oper, ops[j]? = some oj ∧ oj.dst = some r.dst := fun j r hr => by
        have hj : j < i := by have := (List.getElem?_eq_some_iff.1 hr).1; omega
        obtain ⟨oj, hoj⟩ := hops j hj
        obtain ⟨r', _, _, k1, k2, _⟩ := hH j oj hj hoj
        rw [hr] at k1; have := Option.some.inj k1; subst this
        exact ⟨oj, hoj, k2⟩
      have hdis : ∀ (k k' : Nat) (r r' : HR), k < k' → Rs[k]? = some r → Rs[k']? = some r' → r'.dst ≠ r.dst := fun k k' r r' hkk hr hr' e => by
        have hk' : k' < i := by have := (List.getElem?_eq_some_iff.1 hr').1; omega
        obtain ⟨oj, hoj⟩ := hops k' hk'
        obtain ⟨r2, _, _, k1, _, _, _, _, k6, _⟩ := hH k' oj hk' hoj
        rw [hr'] at k1; have := Option.some.inj k1; subst this
        exact freshDst_iff.1 k6 r (List.mem_of_getElem? (i := k) (by rw [List.getElem?_take, if_pos hkk]; exact hr)) e.symm
      obtain ⟨ps, c, v, new, kn', h1, h2, h3, h4⟩ := opH_ok hT hkn (fun j r hm hr => addSel_in (k := j) hr (by rw [Nat.zero_add]; exact hm) (fun k' r' hk hr' => hdis j k' r r' hk hr hr')) (fun j r _ hr => hdst j r hr) h
      obtain ⟨Rs', kn2, k1, kk, k2, k3⟩ := headR_ok hT l (i + 1) (Rs ++ [⟨d, v, new, pred⟩]) kn' (fun j hj => by have := hl (j + 1) (by simp; omega); simpa [Nat.add_assoc, Nat.add_comm 1 j] using this) (by simp [hlen])
        (fun j d' hj => by
          obtain ⟨r, i1, i2⟩ := h3 j d' hj
          exact ⟨r, by rw [List.getElem?_append_left (List.getElem?_eq_some_iff.1 i1).1]; exact i1, i2⟩)
        (fun j oj hj hoj => by
          by_cases hji : j < i
          · obtain ⟨r, ps', c', j1, j2, j3, j4, j5, j6, j7, j8, j9, j10⟩ := hH j oj hji hoj
            have ht : (Rs ++ [(⟨d, v, new, pred⟩ : HR)]).take j = Rs.take j := by rw [List.take_append_of_le_length (by omega)]
            exact ⟨r, ps', c', by rw [List.getElem?_append_left (by omega)]; exact j1, j2, j3, j4, by rw [ht]; exact j5, by rw [ht]; exact j6, by rw [ht]; exact j7, j8, by rw [ht]; exact j9, j10⟩
          · have : j = i := by omega
            subst this
            rw [ho] at hoj; have := Option.some.inj hoj; subst this
            have ht : (Rs ++ [(⟨d, v, new, pred⟩ : HR)]).take j = Rs := by rw [← hlen, List.take_left]
            exact ⟨⟨d, v, new, pred⟩, ps, c, by rw [← hlen]; simp, hd, Nat.lt_of_lt_of_le (Nat.lt_succ_self d) (Nat.le_of_ble_eq_true b1), b2, by rw [ht]; exact hp, by rw [ht]; exact b3, by rw [ht]; exact b4, b5, by rw [ht]; exact h1, h2⟩)
        h4
      exact ⟨Rs', kn2, k1, kk, by rw [k2, List.length_cons]; omega, fun j oj hj => k3 j oj (by rw [List.length_cons] at hj; omega)⟩
    · cases h
theorem tail_ok (hT : ∀ e ∈ tb.ents, e.Sound P) {ops : Array Oper} {K : St → Option R} {x : R} {n : Nat} {N : Act → World → Prop} (he : edgesFine ops.toList 0 = true) (ht : tailFine ops n = true) (hN : ∀ s', K s' = some x → ∀ G' a' w', Rel w₀ G₀ hp₀ G' s' a' w' → N a' w') :
    ∀ (l : List Oper) (m : Nat), n ≤ m → ops.toList.drop m = l → m ≤ ops.size → ∀ (s : St) (G : Gh) (a : Act) (w : World) (listed : Array Bool), opsR P tb ops l s K = some x → Rel w₀ G₀ hp₀ G s a w → Upto ops m listed → dAny P ops N (ops.size - m) listed a w
  | [], m, hn, hl, hm, s, G, a, w, listed, h, hr, hu => by
    have : m = ops.size := by
      have := congrArg List.length hl
      simp at this; omega
    subst this
    exact tail_end hu (hN s h G a w hr)
  | o :: l, m, hn, hl, hm, s, G, a, w, listed, h, hr, hu => by
    have hlt : m < ops.size := by
      have := congrArg List.length hl
      simp at this; omega
    have ho : ops[m]? = some o := by
      have := congrArg (fun l => l[0]?) hl
      simpa using this
    refine tail_one he ht hn hlt hu (op1_ok hT hr ho h (fun s' h' G' a' w' hr' listed' hu' => ?_))
    exact tail_ok hT he ht hN l (m + 1) (by omega) (by rw [← List.drop_drop, hl]; rfl) (by omega) s' G' a' w' listed' h' hr' hu'
theorem drawR_ok (hT : ∀ e ∈ tb.ents, e.Sound P) (hm : P.follows .mixedOrders = true) {ops : Array Oper} {K : St → Option R} {x : R} (h : drawR P tb ops s K = some x) {N : Act → World → Prop} (hN : ∀ s', K s' = some x → ∀ G' a' w', Rel w₀ G₀ hp₀ G' s' a' w' → N a' w')
    (hr : Rel w₀ G₀ hp₀ G s a w) (id : Nat) (b : Frame) (k : List Item) (cs : List Frame) (hk : b.kind = .normal) :
    ∃ a' w', N a' w' ∧ Steps P (lone (b.atR a (.code (.region id ops true) :: k)) cs w) (lone (b.atR a' k) cs w') := by
  unfold drawR at h
  generalize headLen ops = n at h
  cases hb : edgesFine ops.toList 0 && tailFine ops n && Nat.ble n ops.toList.length <;> rw [hb] at h <;> simp only [cond_true, cond_false, reduceCtorEq] at h
  simp only [Bool.and_eq_true] at hb
  obtain ⟨⟨b1, b2⟩, b3⟩ := hb
  have hn : n ≤ ops.size := by have := Nat.le_of_ble_eq_true b3; simpa using this
  have hlen : (ops.toList.take n).length = n := by simp; omega
  obtain ⟨Rs, kn, k1, kk, k2, k3⟩ := headR_ok hT (ops.toList.take n) 0 [] [] (fun j hj => by
    rw [hlen] at hj
    rw [List.getElem?_take, if_pos hj, Nat.zero_add]; simp) rfl (fun j d h => by cases h) (fun j o hj => by omega) h
  rw [Nat.zero_add, hlen] at k2 k3
  have hdis : ∀ (k k' : Nat) (r r' : HR), k < k' → Rs[k]? = some r → Rs[k']? = some r' → r'.dst ≠ r.dst := fun k k' r r' hkk hr hr' e => by
    have hk' : k' < n := by have := (List.getElem?_eq_some_iff.1 hr').1; omega
    obtain ⟨oj, hoj⟩ : ∃ oj, ops[k']? = some oj := ⟨ops[k'], by simp [show k' < ops.size by omega]⟩
    obtain ⟨r2, _, _, j1, _, _, _, _, j6, _⟩ := k3 k' oj hk' hoj
    rw [hr'] at j1; have := Option.some.inj j1; subst this
    exact freshDst_iff.1 j6 r (List.mem_of_getElem? (i := k) (by rw [List.getElem?_take, if_pos hkk]; exact hr)) e.symm
  exact draw_ok hn b1 b2 hm k2 k3 (fun G a w listed hr' hu => tail_ok hT b1 b2 hN _ n (Nat.le_refl _) rfl hn _ G a w listed k1 (knows_ok hdis hr' kk) hu) hr id b k cs hk
end
end Go.Sym
/- A region that draws its order and holds one operation that changes own memory. -/
namespace Go.Sym
open Go.RowKit
variable [LC]

/-- what the one operation that changes own memory does: slots, boxes -/
structure Md : Type where
  f : List (Nat × AV)
  h : List (Nat × Box)
def St.addM (s : St) (m : Md) : St := { s with fr := m.f ++ s.fr, hp := m.h ++ s.hp }
/-- boxes that are not to be looked at -/
def hideHp (K : List Nat) : List (Nat × Box) → List (Nat × Box)
  | [] => []
  | (n, b) :: r => bif memN K n then hideHp K r else (n, b) :: hideHp K r
def St.hide (s : St) (K : List Nat) : St := { s with hp := hideHp K s.hp }
omit [LC] in
theorem look_hide {K : List Nat} : ∀ {l : List (Nat × Box)} {n : Nat} {b : Box}, look (hideHp K l) n = some b → look l n = some b ∧ n ∉ K
  | [], n, b, h => by cases h
  | (k, v) :: r, n, b, h => by
    simp only [hideHp] at h
    cases hm : memN K k <;> rw [hm] at h <;> simp only [cond_true, cond_false] at h
    · simp only [look] at h ⊢
      cases hb : Nat.beq k n <;> rw [hb] at h <;> simp only [cond_true, cond_false] at h ⊢
      · exact look_hide h
      · refine ⟨h, fun hn => ?_⟩
        rw [← Nat.eq_of_beq_eq_true hb] at hn
        rw [memN_iff.2 hn] at hm; cases hm
    · obtain ⟨h1, h2⟩ := look_hide h
      refine ⟨?_, h2⟩
      simp only [look]
      cases hb : Nat.beq k n
      · exact h1
      · exfalso; apply h2; rw [← Nat.eq_of_beq_eq_true hb]; exact memN_iff.1 hm
omit [LC] in
theorem noRange_hide {K : List Nat} {lo : Nat} : ∀ {l : List (Nat × Box)}, noRange lo l = true → noRange lo (hideHp K l) = true
  | [], h => h
  | (k, v) :: r, h => by
    simp only [noRange, Bool.and_eq_true] at h
    simp only [hideHp]
    cases memN K k
    · simp only [cond_false, noRange, Bool.and_eq_true]; exact ⟨h.1, noRange_hide h.2⟩
    · exact noRange_hide h.2
def modOp (P : Program) (t : St) (d : D) (o : Oper) : Option (List Prop × Md) :=
  match o.op, o.dst with
  | .store T x y, none => match t.ev x, t.ev y, tSize P T with
    | some (.ptr b off), some v, some n => match look t.hp b with
      | some (.cells cs T') => bif Nat.beq v.cells.length n && AV.ones v.cells && Nat.ble (off + n) cs.length then some ([], ⟨[], [(b, .cells (splice cs off v.cells) T')]⟩) else none
      | _ => none
    | _, _, _ => none
  | .call { callee := .builtin .append, args, argTypes }, some tt => match args.toList, argTypes.toList with
    | [x, y], [ty, ty2] => match t.ev x, t.ev y with
      | some (.own k), some v => match look t.hp k with
        | some (.row τ0 l0 E0) => match aAppend P t d ty ty2 (l0.flatMap τ0.enc) l0.length v with
          | some (ps, .row τ l E) => bif noRange (t.nx + 16 * tt) t.hp && Nat.beq τ.sz τ0.sz && Nat.beq E E0 && Nat.blt tt t.n then some (ps, ⟨[(tt, .own (t.nx + 16 * tt))], [(t.nx + 16 * tt, .row τ l E), (k, .dead)]⟩) else none
          | _ => none
        | _ => none
      | _, _ => none
    | _, _ => none
  | _, _ => none
theorem modOp_aex {P : Program} {t : St} {d : D} {o : Oper} {ps : List Prop} {m : Md} (h : modOp P t d o = some (ps, m)) : aex P t d o = some (ps, t.addM m) := by
  obtain ⟨dst, op, ty, pos, after, guard⟩ := o
  unfold modOp at h
  split at h
  · rename_i T x y ho hd
    simp only at ho hd; subst ho hd
    split at h
    · rename_i b off v n hx hy hn
      split at h
      · rename_i cs T' hb
        cases hc : Nat.beq v.cells.length n && AV.ones v.cells && Nat.ble (off + n) cs.length <;> rw [hc] at h <;> simp only [cond_true, cond_false, reduceCtorEq, Option.some.injEq, Prod.mk.injEq] at h
        obtain ⟨rfl, rfl⟩ := h
        unfold aex
        rw [show aadd P t d ⟨none, .store T x y, ty, pos, after, guard⟩ = none from rfl]
        simp only [amod, hx, hy, hn, hb, hc, cond_true]
        rfl
      · cases h
    · cases h
  · rename_i args argTypes tt ho hd
    simp only at ho hd; subst ho hd
    split at h
    · rename_i x y t1 t2 ha ht
      split at h
      · rename_i k v hx hy
        split at h
        · rename_i τ0 l0 E0 hk
          split at h
          · rename_i ps' τ l E hap
            cases hc : noRange (t.nx + 16 * tt) t.hp && Nat.beq τ.sz τ0.sz && Nat.beq E E0 && Nat.blt tt t.n <;> rw [hc] at h <;> simp only [cond_true, cond_false, reduceCtorEq, Option.some.injEq, Prod.mk.injEq] at h
            obtain ⟨rfl, rfl⟩ := h
            have hadd : aadd P t d ⟨some tt, .call { callee := .builtin .append, args := args, argTypes := argTypes }, ty, pos, after, guard⟩ = none := by
              simp only [aadd, aval, anew, ha, ht, hx, hy]
            unfold aex
            rw [hadd]
            simp only [amod, ha, ht, hx, hy, hk, hap, hc, cond_true]
            rfl
          · cases h
        · cases h
      · cases h
    · cases h
  · cases h
omit [LC] in
theorem modOp_sees {P : Program} {t st : St} {d : D} {o : Oper} {R : List Prop × Md} (hs : Sees o t st) (hn : t.n = st.n) (h : modOp P t d o = some R) : modOp P st d o = some R := by
  obtain ⟨dst, op, ty, pos, after, guard⟩ := o
  have hev := hs.ev
  have hhp := hs.hp
  have hroom := hs.room
  have hnx := hs.nx
  simp only at hev hroom
  unfold modOp at h ⊢
  split at h
  · rename_i T x y ho hd
    simp only at ho hd; subst ho hd
    rw [hev x (by simp [Op.operands]), hev y (by simp [Op.operands])] at h
    split at h
    · rename_i b off v n hx hy hn
      split at h
      · rename_i cs T' hb
        simp only [hhp _ _ hb]; exact h
      · cases h
    · cases h
  · rename_i args argTypes tt ho hd
    simp only at ho hd; subst ho hd
    have hm : ∀ z ∈ args.toList, t.ev z = st.ev z := fun z hz => hev z (by simp [Op.operands, Call.operands]; simpa using hz)
    split at h
    · rename_i x y t1 t2 ha ht
      rw [hm x (by rw [ha]; simp), hm y (by rw [ha]; simp)] at h
      split at h
      · rename_i k v hx hy
        split at h
        · rename_i τ0 l0 E0 hk
          simp only [hhp _ _ hk]
          split at h
          · rename_i ps' τ l E hap
            simp only [aAppend_sees hhp hap]
            cases hc : noRange (t.nx + 16 * tt) t.hp && Nat.beq τ.sz τ0.sz && Nat.beq E E0 && Nat.blt tt t.n <;> rw [hc] at h <;> simp only [cond_true, cond_false, reduceCtorEq] at h
            simp only [Bool.and_eq_true] at hc
            rw [hroom tt rfl, ← hn, hc.1.1.2, hc.1.2, hc.2, ← hnx]
            exact h
          · cases h
        · cases h
      · cases h
    · cases h
  · cases h

section
variable {P : Program} {w₀ : World} {G₀ : Gh} {hp₀ : List (Nat × Box)} {s : St}
def dropN (m : Nat) : List Nat → List Nat
  | [] => []
  | x :: xs => bif Nat.beq x m then dropN m xs else x :: dropN m xs
omit [LC] in
theorem mem_dropN {m : Nat} : ∀ {l : List Nat} {i : Nat}, i ∈ dropN m l ↔ i ∈ l ∧ i ≠ m
  | [], i => by simp [dropN]
  | x :: xs, i => by
    simp only [dropN]
    cases hb : Nat.beq x m
    · have hx : x ≠ m := fun e => by subst e; simp at hb
      simp only [cond_false, List.mem_cons, mem_dropN (l := xs)]
      constructor
      · rintro (h | h)
        · exact ⟨.inl h, h ▸ hx⟩
        · exact ⟨.inr h.1, h.2⟩
      · rintro ⟨h | h, h2⟩
        · exact .inl h
        · exact .inr ⟨h, h2⟩
    · have hx := Nat.eq_of_beq_eq_true hb
      simp only [cond_true, List.mem_cons, mem_dropN (l := xs)]
      constructor
      · rintro ⟨h, h2⟩; exact ⟨.inr h, h2⟩
      · rintro ⟨h | h, h2⟩
        · exact absurd (h.trans hx) h2
        · exact ⟨h, h2⟩
/-- what the head's reckoning shows of operation i, another one than m -/
def HOkM (P : Program) (ops : Array Oper) (s : St) (Rs : List HR) (m : Nat) (md : Md) (K : List Nat) (i : Nat) (o : Oper) : Prop :=
  ∃ r ps, ∃ c : Dec, Rs[i]? = some r ∧ o.dst = some r.dst ∧ r.dst < s.n ∧ noRange (s.nx + 16 * r.dst) s.hp = true ∧ predsOf (Rs.take i) o.after.toList = some r.pred ∧ freshDst r.dst (Rs.take i) = true ∧
    readsFine r.pred (readsOf ops o) (Rs.take i) 0 = true ∧ writesFine ops r.dst r.pred i = true ∧
    astepH P ops (addSel (dropN m r.pred) (Rs.take i) 0 (bif memN r.pred m then s.addM md else s.hide K)) c o = some (ps, r.v, r.new) ∧ Alls ps
/-- what it shows of m -/
def MOk (P : Program) (ops : Array Oper) (s : St) (Rs : List HR) (m : Nat) (md : Md) (K : List Nat) (o : Oper) : Prop :=
  ∃ r ps d, Rs[m]? = some r ∧ o.guard = none ∧ r.dst = s.n + m ∧ (r.new = [] ∧ r.v = .undef) ∧ noRange (s.nx + 16 * r.dst) s.hp = true ∧ predsOf (Rs.take m) o.after.toList = some r.pred ∧ freshDst r.dst (Rs.take m) = true ∧
    readsFine r.pred (readsOf ops o) (Rs.take m) 0 = true ∧ modOp P (addSel r.pred (Rs.take m) 0 s) d o = some (ps, md) ∧ Alls ps ∧ (∀ t, o.dst = some t → t < s.n ∧ noRange (s.nx + 16 * t) s.hp = true) ∧
    (∀ e ∈ md.f, o.dst = some e.1) ∧ (∀ e ∈ md.h, e.1 ∈ K ∨ ∃ t, o.dst = some t ∧ e.1 = s.nx + 16 * t) ∧ ∀ k ∈ K, ∃ b, look s.hp k = some b
/-- the slot of m is another one than those of the others, and nobody looks at it ahead of m -/
def ttFine (ops : Array Oper) (m tt : Nat) : List HR → Nat → Bool
  | [], _ => true
  | r :: rs, j => (Nat.beq j m || (!Nat.beq r.dst tt && (memN r.pred m || (match ops[j]? with | some o => !memN (readsOf ops o) tt | none => true)))) && ttFine ops m tt rs (j + 1)
omit [LC] in
theorem ttFine_iff {ops : Array Oper} {m tt : Nat} : ∀ {rs : List HR} {j : Nat}, ttFine ops m tt rs j = true → ∀ k r, rs[k]? = some r → j + k ≠ m → r.dst ≠ tt ∧ (m ∈ r.pred ∨ ∀ o, ops[j + k]? = some o → tt ∉ readsOf ops o)
  | [], j, _, k, r, hr => by simp at hr
  | r0 :: rs, j, h, k, r, hr => by
    simp only [ttFine, Bool.and_eq_true, Bool.or_eq_true] at h
    cases k with
    | zero =>
      simp only [List.getElem?_cons_zero, Option.some.injEq] at hr; subst hr
      intro hj
      rw [Nat.add_zero] at hj ⊢
      rcases h.1 with h1 | ⟨h1, h2⟩
      · exact absurd (Nat.eq_of_beq_eq_true h1) hj
      · refine ⟨fun e => by subst e; simp at h1, ?_⟩
        rcases h2 with h2 | h2
        · exact .inl (memN_iff.1 h2)
        · refine .inr (fun o ho hm => ?_)
          rw [ho] at h2
          simp only [Bool.not_eq_true'] at h2
          rw [memN_iff.2 hm] at h2; cases h2
    | succ k =>
      intro hj
      have := ttFine_iff h.2 k r (by simpa using hr) (by omega)
      rwa [show j + (k + 1) = j + 1 + k by omega]
omit [LC] in
theorem look_none_of {l : List (Nat × Box)} {n : Nat} (h : ∀ e ∈ l, e.1 ≠ n) : look l n = none := by
  cases hq : look l n with
  | none => rfl
  | some b => exact absurd rfl (h _ (look_mem hq))
omit [LC] in
theorem lookf_none_of {n : Nat} : ∀ {l : List (Nat × AV)}, (∀ e ∈ l, e.1 ≠ n) → look l n = none
  | [], _ => rfl
  | (k, v) :: r, h => by
    simp only [look]
    cases hb : Nat.beq k n
    · exact lookf_none_of (fun e he => h e (List.mem_cons_of_mem _ he))
    · exact absurd (Nat.eq_of_beq_eq_true hb) (h _ List.mem_cons_self)
/-- the state when some operations have run -/
def atM (Rs : List HR) (m : Nat) (md : Md) (s : St) (L : List Nat) : St := addL Rs (dropN m L) (bif memN L m then s.addM md else s)

theorem headM_ok {ops : Array Oper} {n m : Nat} {Rs : List HR} {md : Md} {K : List Nat} {N : Act → World → Prop} (hn : n ≤ ops.size) (hmn : m < n) (hed : edgesFine ops.toList 0 = true) (ht : tailFine ops n = true) (hlen : Rs.length = n)
    (hH : ∀ i o, i < n → i ≠ m → ops[i]? = some o → HOkM P ops s Rs m md K i o) (hM : ∀ o, ops[m]? = some o → MOk P ops s Rs m md K o) (htt : ∀ o tt, ops[m]? = some o → o.dst = some tt → ttFine ops m tt Rs 0 = true) (hh : Head s Rs)
    (htail : ∀ (G : Gh) (a : Act) (w : World) (listed : Array Bool), Rel w₀ G₀ hp₀ G (addSel (dropN m (List.range n)) Rs 0 (s.addM md)) a w → Upto ops n listed → dAny P ops N (ops.size - n) listed a w) :
    ∀ (g : Nat) (L : List Nat) (listed : Array Bool) (G : Gh) (a : Act) (w : World), ops.size = g + L.length → Inv ops n L listed → Rel w₀ G₀ hp₀ G (atM Rs m md s L) a w → dAny P ops N g listed a w := by
  obtain ⟨om, hom⟩ : ∃ om, ops[m]? = some om := ⟨ops[m], by simp [show m < ops.size by omega]⟩
  obtain ⟨rm, psm, dm, m1, m2, m3, m4, m5, m6, m7, m8, m9, m10, m11, m12, m13, m14⟩ := hM om hom
  -- predecessors
  have hpre : ∀ i o, i < n → ops[i]? = some o → ∃ r, Rs[i]? = some r ∧ predsOf (Rs.take i) o.after.toList = some r.pred := fun i o hi ho => by
    by_cases him : i = m
    · subst him; rw [hom] at ho; cases ho; exact ⟨rm, m1, m6⟩
    · obtain ⟨r, _, _, h1, _, _, _, h5, _⟩ := hH i o hi him ho
      exact ⟨r, h1, h5⟩
  have hpreds : ∀ {L : List Nat}, (∀ i ∈ L, ∀ o, ops[i]? = some o → ∀ e ∈ o.after, Region.binds .any e = true → e.on ∈ L) → ∀ (i : Nat) (o : Oper) (r : HR), i < n → ops[i]? = some o → Rs[i]? = some r → (∀ e ∈ o.after, Region.binds .any e = true → e.on ∈ L) → (∀ j ∈ r.pred, j ∈ L ∧ j < i) := by
    intro L hcl i
    induction i using Nat.strongRecOn with
    | ind i ih =>
      intro o r hi ho hr hall j hj
      obtain ⟨r', h1, h5⟩ := hpre i o hi ho
      rw [hr] at h1; injection h1 with h1; subst h1
      obtain ⟨e, he, hb, hje⟩ := (predsOf_mem h5).2 j hj
      have hlt := edgesFine_iff hed i o (by simpa using ho) e (by simpa using he) hb
      have hlt' : e.on < i := by omega
      have heL := hall e (by simpa using he) hb
      rcases hje with rfl | ⟨re, hre, hje⟩
      · exact ⟨heL, hlt'⟩
      · have hre' : Rs[e.on]? = some re := by rw [List.getElem?_take] at hre; rw [if_pos hlt'] at hre; exact hre
        have hoe : ops[e.on]? = some ops[e.on] := by simp
        have := ih e.on hlt' ops[e.on] re (by omega) hoe hre' (hcl e.on heL _ hoe) j hje
        exact ⟨this.1, by omega⟩
  -- names
  have hmhn : ∀ e ∈ md.h, ∀ (i : Nat) (r : HR), i ≠ m → Rs[i]? = some r → ∀ x ∈ r.new, e.1 ≠ x.1 := fun e he i r him hr x hx => by
    have h1 := hh.names i r hr x hx
    rcases m13 e he with h | ⟨t, h2, h3⟩
    · obtain ⟨b, hb⟩ := m14 _ h
      have h2 := noRange_iff.1 (hh.room i r hr) _ (look_mem hb)
      simp only at h2
      omega
    · have hd := (ttFine_iff (htt om t hom h2) i r hr (by omega)).1
      have : i ≠ m := him
      omega
  have hhide : Head (s.hide K) Rs := ⟨hh.dst, hh.names, fun i r hr => noRange_hide (hh.room i r hr)⟩
  have hmdr : ∀ d : Nat, (∀ t : Nat, om.dst = some t → d ≠ t) → noRange (s.nx + 16 * d) s.hp = true → noRange (s.nx + 16 * d) (s.addM md).hp = true := fun d hd h => by
    rw [noRange_iff] at h ⊢
    intro e he
    rcases List.mem_append.1 he with he | he
    · rcases m13 e he with hk | ⟨t, h2, h3⟩
      · obtain ⟨b, hb⟩ := m14 _ hk
        exact h (e.1, b) (look_mem hb)
      · have := hd t h2
        omega
    · exact h e he
  have haddM : Head (s.addM md) Rs := ⟨hh.dst, hh.names, fun i r hr => by
    by_cases him : i = m
    · subst him; rw [m1] at hr; cases hr
      refine hmdr rm.dst (fun (t : Nat) h => ?_) m5
      have h9 : (t : Nat) < s.n := (m11 t h).1
      omega
    · exact hmdr r.dst (fun t h => (ttFine_iff (htt om t hom h) i r hr (by omega)).1) (hh.room i r hr)⟩
  have hbase : ∀ L : List Nat, Head (bif memN L m then s.addM md else s) Rs := fun L => by cases memN L m <;> assumption
  have hbn : ∀ L : List Nat, (bif memN L m then s.addM md else s).n = s.n ∧ (bif memN L m then s.addM md else s).nx = s.nx ∧ (bif memN L m then s.addM md else s).df = s.df := fun L => by cases memN L m <;> exact ⟨rfl, rfl, rfl⟩
  have htk : ∀ i, i ≤ n → (Rs.take i).length = i := fun i hi => by simp; omega
  have hlen' : ∀ i, i ≤ n → ∀ k, k < (Rs.take i).length → Rs[0 + k]? = (Rs.take i)[k]? := fun i hi k hk => by
    rw [List.getElem?_take, if_pos (by rw [htk i hi] at hk; omega), Nat.zero_add]
  have htn : Rs.take n = Rs := List.take_of_length_le (by omega)
  have fin : ∀ (L : List Nat) (listed : Array Bool) (G : Gh) (a : Act) (w : World), (∀ i, i < n → i ∈ L) → Inv ops n L listed → Rel w₀ G₀ hp₀ G (atM Rs m md s L) a w → dAny P ops N (ops.size - n) listed a w := by
    intro L listed G a w hall hinv hr
    refine htail G a w listed (hr.eqv ?_) ⟨hinv.size, fun j hj => by rw [hinv.iff j hj]; exact ⟨fun h => hinv.lt j h, fun h => hall j h⟩⟩
    have hm1 : memN L m = true := memN_iff.2 (hall m hmn)
    have he := addSel_eq (Rs := Rs) (sel := dropN m (List.range n)) Rs 0 (s.addM md) (fun k _ => by rw [Nat.zero_add])
    rw [he]
    unfold atM
    rw [hm1]
    simp only [cond_true]
    have hmem : ∀ j, j ∈ ((List.range' 0 Rs.length).filter (memN (dropN m (List.range n)))).reverse ↔ j ∈ dropN m L := fun j => by
      rw [List.mem_reverse, List.mem_filter, memN_iff, mem_dropN, mem_dropN, List.mem_range'_1, hlen, List.mem_range]
      constructor
      · rintro ⟨_, h2, h3⟩; exact ⟨hall j h2, h3⟩
      · rintro ⟨h1, h2⟩; have := hinv.lt j h1; exact ⟨⟨by omega, by omega⟩, by omega, h2⟩
    refine ⟨by rw [(addL_n Rs _ _).1, (addL_n Rs _ _).1], by rw [(addL_n Rs _ _).2, (addL_n Rs _ _).2], fun d => ?_, fun x => ?_, by rw [addL_df, addL_df]⟩
    · by_cases hw : ∃ j, j ∈ dropN m L ∧ ∃ rj : HR, Rs[j]? = some rj ∧ rj.dst = d
      · obtain ⟨j, hj, rj, hrj, rfl⟩ := hw
        rw [addL_fr_in haddM hj hrj, addL_fr_in haddM ((hmem j).2 hj) hrj]
      · rw [addL_fr_out (fun j hj rj hrj e => hw ⟨j, hj, rj, hrj, e⟩), addL_fr_out (fun j hj rj hrj e => hw ⟨j, (hmem j).1 hj, rj, hrj, e⟩)]
    · cases hq : look (addL Rs (dropN m L) (s.addM md)).hp x with
      | some b => exact (addL_hp_mono haddM (fun j hj => (hmem j).2 hj) hq).symm
      | none =>
        cases hq' : look (addL Rs ((List.range' 0 Rs.length).filter (memN (dropN m (List.range n)))).reverse (s.addM md)).hp x with
        | none => rfl
        | some b => rw [addL_hp_mono haddM (fun j hj => (hmem j).1 hj) hq'] at hq; cases hq
  intro g
  induction g with
  | zero =>
    intro L listed G a w hg hinv hr
    have h1 := nodup_le n L hinv.nodup hinv.lt
    have hnn : n = ops.size := by omega
    have hall : ∀ i, i < n → i ∈ L := fun i hi => by
      by_cases hm : i ∈ L
      · exact hm
      · have := nodup_le n (i :: L) (List.nodup_cons.2 ⟨hm, hinv.nodup⟩) (fun j hj => by rcases List.mem_cons.1 hj with rfl | hj; · exact hi
                                                                                         · exact hinv.lt j hj)
        simp at this; omega
    have := fin L listed G a w hall hinv hr
    rwa [hnn, Nat.sub_self] at this
  | succ g ih =>
    intro L listed G a w hg hinv hr
    by_cases hall : ∀ i, i < n → i ∈ L
    · have h1 := nodup_le n L hinv.nodup hinv.lt
      have h2 := le_nodup n L hall
      have := fin L listed G a w hall hinv hr
      rwa [show ops.size - n = g + 1 by omega] at this
    · have hex : ∃ i, i < n ∧ i ∉ L ∧ ∀ j, j < i → j ∈ L := by
        have : ∃ i, i < n ∧ i ∉ L := by
          simpa using hall
        obtain ⟨i, hi, hm⟩ := this
        clear hall
        induction i using Nat.strongRecOn with
        | ind i ih =>
          by_cases hsm : ∀ j, j < i → j ∈ L
          · exact ⟨i, hi, hm, hsm⟩
          · have : ∃ j, j < i ∧ j ∉ L := by simpa using hsm
            obtain ⟨j, hj, hjm⟩ := this
            exact ih j hj (by omega) hjm
      obtain ⟨i0, hi0, hm0, hsm0⟩ := hex
      have hi0s : i0 < ops.size := by omega
      have h0r : i0 ∈ Region.ready .any ops listed := by
        refine mem_ready'.2 ⟨hi0s, ?_, ops[i0], by simp, fun e he hb => ?_⟩
        · cases hq : listed.getD i0 true
          · rfl
          · exact absurd ((hinv.iff i0 hi0s).1 hq) hm0
        · have := edgesFine_iff hed i0 ops[i0] (by simp) e he hb
          have hlt : e.on < i0 := by omega
          exact (hinv.getD_false (by omega)).2 (hsm0 _ hlt)
      refine ⟨fun hnil => (by rw [hnil] at h0r; cases h0r), fun i hi => ?_⟩
      obtain ⟨i1, i2, o, i3, i4⟩ := mem_ready'.1 hi
      have hiL : i ∉ L := fun h => by rw [(hinv.iff i i1).2 h] at i2; cases i2
      have hin : i < n := by
        rcases Nat.lt_or_ge i n with h | h
        · exact h
        · rcases Nat.lt_or_ge n i with h | h
          · obtain ⟨e, he1, he2, he3⟩ := waitsOn_iff (tailFine_next ht h i3)
            have := i4 e he1 he3
            rw [he2, hinv.getD_false (by omega)] at this
            have := hinv.lt _ this
            omega
          · have : i = n := by omega
            subst this
            exact absurd (tailFine_first ht i3 hinv.closed (fun e he hb => by
              have hlt := edgesFine_iff hed i o (by simpa using i3) e he hb
              exact (hinv.getD_false (by omega)).1 (i4 e he hb)) i0 hi0) hm0
      have hedge : ∀ e ∈ o.after, Region.binds .any e = true → e.on ∈ L := fun e he hb => by
        have hlt := edgesFine_iff hed i o (by simpa using i3) e he hb
        exact (hinv.getD_false (by omega)).1 (i4 e he hb)
      have hnext : Inv ops n (i :: L) (listed.setIfInBounds i true) := by
        refine ⟨List.nodup_cons.2 ⟨hiL, hinv.nodup⟩, fun j hj => ?_, by simp [hinv.size], fun j hj => ?_, fun j hj oj hoj e he hb => ?_⟩
        · rcases List.mem_cons.1 hj with rfl | hj
          · exact hin
          · exact hinv.lt j hj
        · rw [Array.getD_eq_getD_getElem?, Array.getElem?_setIfInBounds]
          by_cases hij : i = j
          · subst hij; simp [hinv.size, i1]
          · rw [if_neg hij]
            have := hinv.iff j hj
            rw [Array.getD_eq_getD_getElem?] at this
            rw [this, List.mem_cons]
            exact ⟨fun h => .inr h, fun h => h.resolve_left (fun e => hij e.symm)⟩
        · rcases List.mem_cons.1 hj with rfl | hj
          · rw [i3] at hoj; injection hoj with hoj; subst hoj
            exact List.mem_cons_of_mem _ (hedge e he hb)
          · exact List.mem_cons_of_mem _ (hinv.closed j hj oj hoj e he hb)
      -- an operation that has run already, and is no predecessor, writes nothing that is looked at
      have late : ∀ (ri : HR), Rs[i]? = some ri → (∀ j ∈ ri.pred, j ∈ L ∧ j < i) → readsFine ri.pred (readsOf ops o) (Rs.take i) 0 = true → ∀ (j : Nat) (rj : HR), Rs[j]? = some rj → j ∈ L → j ≠ m → rj.dst ∈ readsOf ops o → j ∈ ri.pred := by
        intro ri hri hpi hrf j rj hj h hjm hd
        have hjn := hinv.lt j h
        have hji : j ≠ i := fun e => hiL (e ▸ h)
        rcases Nat.lt_or_gt_of_ne hji with hlt | hgt
        · rcases readsFine_iff hrf j rj (by rw [List.getElem?_take, if_pos hlt]; exact hj) with h' | h'
          · simpa using h'
          · exact absurd hd h'
        · have hoj : ops[j]? = some ops[j] := by simp
          obtain ⟨rj', psj, cj, k1, k2, _, _, _, _, _, k8, _⟩ := hH j ops[j] hjn hjm hoj
          rw [hj] at k1; injection k1 with k1; subst k1
          rcases writesFine_iff k8 i o hgt i3 with h' | h'
          · have := hpreds hinv.closed j ops[j] rj hjn hoj hj (hinv.closed j h _ hoj) i h'
            exact absurd this.1 hiL
          · exact absurd hd h'
      by_cases him : i = m
      · -- m itself
        subst him
        rw [hom] at i3; cases i3
        have hpm := hpreds hinv.closed i om rm hin hom m1 hedge
        have hmL : memN L i = false := by
          cases hq : memN L i
          · rfl
          · exact absurd (memN_iff.1 hq) hiL
        rw [addSel_eq (Rs := Rs) (Rs.take i) 0 s (hlen' i (by omega)), htk i (by omega)] at m9
        have hdl : ∀ j, j ∈ dropN i L ↔ j ∈ L := fun j => by
          rw [mem_dropN]; exact ⟨fun h => h.1, fun h => ⟨h, fun e => hiL (e ▸ h)⟩⟩
        have hsel : ∀ j, j ∈ ((List.range' 0 i).filter (memN rm.pred)).reverse ↔ j ∈ rm.pred := fun j => by
          rw [List.mem_reverse, List.mem_filter, memN_iff]
          refine ⟨fun h => h.2, fun h => ⟨?_, h⟩⟩
          rw [List.mem_range'_1]; exact ⟨by omega, by have := (hpm j h).2; omega⟩
        have hst : atM Rs i md s L = addL Rs (dropN i L) s := by unfold atM; rw [hmL]; rfl
        rw [hst] at hr
        have hreads : ∀ d ∈ readsOf ops om, look (addL Rs ((List.range' 0 i).filter (memN rm.pred)).reverse s).fr d = look (addL Rs (dropN i L) s).fr d := fun d hd => by
          by_cases hw : ∃ j rj, Rs[j]? = some rj ∧ rj.dst = d ∧ (j ∈ rm.pred ∨ j ∈ dropN i L)
          · obtain ⟨j, rj, hj, rfl, hjj⟩ := hw
            have hjp : j ∈ rm.pred := by
              rcases hjj with h | h
              · exact h
              · exact late rm m1 hpm m8 j rj hj ((hdl j).1 h) (mem_dropN.1 h).2 hd
            rw [addL_fr_in hh ((hsel j).2 hjp) hj, addL_fr_in hh ((hdl j).2 (hpm j hjp).1) hj]
          · rw [addL_fr_out (fun j hj rj hrj e => hw ⟨j, rj, hrj, e, .inl ((hsel j).1 hj)⟩), addL_fr_out (fun j hj rj hrj e => hw ⟨j, rj, hrj, e, .inr hj⟩)]
        have hroom : ∀ t, om.dst = some t → noRange (s.nx + 16 * t) (addL Rs (dropN i L) s).hp = true := by
          intro t htd
          have key : ∀ L' : List Nat, (∀ j ∈ L', j ≠ i) → noRange (s.nx + 16 * t) (addL Rs L' s).hp = true := by
            intro L'
            induction L' with
            | nil => intro _; exact (m11 t htd).2
            | cons j L' ihl =>
              intro hne
              have ihl := ihl (fun x hx => hne x (List.mem_cons_of_mem _ hx))
              simp only [addL]
              split
              · rename_i rj hrj
                have hdj := (ttFine_iff (htt om t hom htd) j rj hrj (by have := hne j List.mem_cons_self; omega)).1
                simp only [St.addR]
                rw [noRange_iff] at ihl ⊢
                intro e he
                rcases List.mem_append.1 he with he | he
                · have := hh.names j rj hrj e he
                  omega
                · exact ihl e he
              · exact ihl
          exact key _ (fun j hj => (mem_dropN.1 hj).2)
        have hsees : Sees om (addL Rs ((List.range' 0 i).filter (memN rm.pred)).reverse s) (addL Rs (dropN i L) s) := by
          refine ⟨by rw [(addL_n Rs _ s).2, (addL_n Rs _ s).2], fun x hx => ?_, fun m' b hb => addL_hp_mono hh (fun j hj => (hdl j).2 (hpm j ((hsel j).1 hj)).1) hb, fun d hd => ?_⟩
          · cases x with
            | tmp t =>
              exact hreads t (by simp only [readsOf]; refine List.mem_append.2 (.inl ?_); rw [List.mem_filterMap]; exact ⟨.tmp t, hx, rfl⟩)
            | _ => rfl
          · rw [(addL_n Rs _ s).2]; exact hroom d hd
        have h9' := modOp_sees hsees (by rw [(addL_n Rs _ s).1, (addL_n Rs _ s).1]) m9
        refine dOp_of hom (by simp [Region.wanted, m2]) (aex_ok hr (modOp_aex h9') m10 (fun G' a' w' hr' => ih (i :: L) _ G' a' w' (by simp; omega) hnext ?_))
        refine hr'.eqv ?_
        have hmL2 : memN (i :: L) i = true := memN_iff.2 List.mem_cons_self
        have hd2 : dropN i (i :: L) = dropN i L := by simp [dropN]
        unfold atM
        rw [hmL2, hd2]
        simp only [cond_true]
        have fout : ∀ e ∈ md.f, ∀ j ∈ dropN i L, ∀ rj : HR, Rs[j]? = some rj → rj.dst ≠ e.1 := fun e he j hj rj hrj =>
          (ttFine_iff (htt om e.1 hom (m12 e he)) j rj hrj (by have := (mem_dropN.1 hj).2; omega)).1
        refine ⟨by simp only [St.addM, (addL_n Rs _ _).1], by simp only [St.addM, (addL_n Rs _ _).2], fun d => ?_, fun x => ?_, by simp only [St.addM, addL_df]⟩
        · show look (md.f ++ (addL Rs (dropN i L) s).fr) d = look (addL Rs (dropN i L) (s.addM md)).fr d
          by_cases hw : ∃ j, j ∈ dropN i L ∧ ∃ rj : HR, Rs[j]? = some rj ∧ rj.dst = d
          · obtain ⟨j, hj, rj, hrj, rfl⟩ := hw
            rw [addL_fr_in haddM hj hrj]
            have : look md.f rj.dst = none := lookf_none_of (fun e he e2 => fout e he j hj rj hrj e2.symm)
            have key : ∀ l : List (Nat × AV), look l rj.dst = none → ∀ r, look (l ++ r) rj.dst = look r rj.dst := by
              intro l
              induction l with
              | nil => intro _ r; rfl
              | cons y l ihl =>
                intro hy r
                obtain ⟨k, v⟩ := y
                simp only [List.cons_append, look] at hy ⊢
                cases hb : Nat.beq k rj.dst
                · rw [hb] at hy; exact ihl hy r
                · rw [hb] at hy; cases hy
            rw [key _ this, addL_fr_in hh hj hrj]
          · have e2 : look (addL Rs (dropN i L) (s.addM md)).fr d = look (s.addM md).fr d := addL_fr_out (fun j hj rj hrj e => hw ⟨j, hj, rj, hrj, e⟩)
            have e1 : look (addL Rs (dropN i L) s).fr d = look s.fr d := addL_fr_out (fun j hj rj hrj e => hw ⟨j, hj, rj, hrj, e⟩)
            rw [e2]
            show look (md.f ++ (addL Rs (dropN i L) s).fr) d = look (md.f ++ s.fr) d
            have key : ∀ l : List (Nat × AV), ∀ r r' : List (Nat × AV), look r d = look r' d → look (l ++ r) d = look (l ++ r') d := by
              intro l
              induction l with
              | nil => intro r r' h; exact h
              | cons y l ihl =>
                intro r r' h
                obtain ⟨k, v⟩ := y
                simp only [List.cons_append, look, ihl r r' h]
            exact key _ _ _ e1
        · show look (md.h ++ (addL Rs (dropN i L) s).hp) x = look (addL Rs (dropN i L) (s.addM md)).hp x
          rw [look_append]
          cases hq : look md.h x with
          | some b =>
            have : look (addL Rs (dropN i L) (s.addM md)).hp x = look (s.addM md).hp x := addL_hp_out (fun j hj rj hrj => look_none_of (fun e he e2 => hmhn _ (look_mem hq) j rj (mem_dropN.1 hj).2 hrj e he e2.symm))
            rw [this]
            show some b = look (md.h ++ s.hp) x
            rw [look_append, hq]
          | none =>
            simp only
            by_cases hw : ∃ j, j ∈ dropN i L ∧ ∃ rj : HR, Rs[j]? = some rj ∧ ∃ b, look rj.new x = some b
            · obtain ⟨j, hj, rj, hrj, b, hb⟩ := hw
              rw [addL_hp_in hh hj hrj hb, addL_hp_in haddM hj hrj hb]
            · have hnone : ∀ j ∈ dropN i L, ∀ rj : HR, Rs[j]? = some rj → look rj.new x = none := fun j hj rj hrj => by
                cases hq2 : look rj.new x with
                | none => rfl
                | some b => exact absurd ⟨j, hj, rj, hrj, b, hq2⟩ hw
              rw [addL_hp_out hnone, addL_hp_out hnone]
              show look s.hp x = look (md.h ++ s.hp) x
              rw [look_append, hq]
      · -- another operation
        obtain ⟨r, ps, c, h1, h2, h3, h4, h5, h6, h7, h8, h9, h10⟩ := hH i o hin him i3
        have hpred := hpreds hinv.closed i o r hin i3 h1 hedge
        rw [addSel_eq (Rs := Rs) (Rs.take i) 0 _ (hlen' i (by omega)), htk i (by omega)] at h9
        have hsel : ∀ j, j ∈ ((List.range' 0 i).filter (memN (dropN m r.pred))).reverse ↔ j ∈ r.pred ∧ j ≠ m := fun j => by
          rw [List.mem_reverse, List.mem_filter, memN_iff, mem_dropN]
          refine ⟨fun h => h.2, fun h => ⟨?_, h⟩⟩
          rw [List.mem_range'_1]; exact ⟨by omega, by have := (hpred j h.1).2; omega⟩
        have hsub : ∀ j ∈ ((List.range' 0 i).filter (memN (dropN m r.pred))).reverse, j ∈ dropN m L := fun j hj => by
          have := (hsel j).1 hj
          exact mem_dropN.2 ⟨(hpred j this.1).1, this.2⟩
        have hheadT : Head (bif memN r.pred m then s.addM md else s.hide K) Rs := by cases memN r.pred m <;> assumption
        -- m's slot is looked at only behind m
        have hslot : ∀ d ∈ readsOf ops o, look (bif memN r.pred m then s.addM md else s.hide K).fr d = look (bif memN L m then s.addM md else s).fr d := fun d hd => by
          cases hp : memN r.pred m
          · cases hq : memN L m
            · rfl
            · show look s.fr d = look (md.f ++ s.fr) d
              have hno : ∀ e ∈ md.f, e.1 ≠ d := fun e he e2 => by
                have := (ttFine_iff (htt om e.1 hom (m12 e he)) i r h1 (by omega)).2
                rcases this with h' | h'
                · rw [memN_iff.2 h'] at hp; cases hp
                · exact h' o (by rw [Nat.zero_add]; exact i3) (e2 ▸ hd)
              have key : ∀ l : List (Nat × AV), (∀ e ∈ l, e.1 ≠ d) → ∀ r, look (l ++ r) d = look r d := by
                intro l
                induction l with
                | nil => intro _ r; rfl
                | cons y l ihl =>
                  intro hy r
                  obtain ⟨k, v⟩ := y
                  simp only [List.cons_append, look]
                  cases hb : Nat.beq k d
                  · exact ihl (fun e he => hy e (List.mem_cons_of_mem _ he)) r
                  · exact absurd (Nat.eq_of_beq_eq_true hb) (hy _ List.mem_cons_self)
              exact (key _ hno _).symm
          · have : memN L m = true := memN_iff.2 (hpred m (memN_iff.1 hp)).1
            rw [this]; rfl
        have hreads : ∀ d ∈ readsOf ops o, look (addL Rs ((List.range' 0 i).filter (memN (dropN m r.pred))).reverse (bif memN r.pred m then s.addM md else s.hide K)).fr d = look (atM Rs m md s L).fr d := fun d hd => by
          unfold atM
          by_cases hw : ∃ j rj, Rs[j]? = some rj ∧ rj.dst = d ∧ j ≠ m ∧ (j ∈ r.pred ∨ j ∈ L)
          · obtain ⟨j, rj, hj, rfl, hjm, hjj⟩ := hw
            have hjp : j ∈ r.pred := by
              rcases hjj with h | h
              · exact h
              · exact late r h1 hpred h7 j rj hj h hjm hd
            rw [addL_fr_in hheadT ((hsel j).2 ⟨hjp, hjm⟩) hj, addL_fr_in (hbase L) (mem_dropN.2 ⟨(hpred j hjp).1, hjm⟩) hj]
          · rw [addL_fr_out (fun j hj rj hrj e => hw ⟨j, rj, hrj, e, ((hsel j).1 hj).2, .inl ((hsel j).1 hj).1⟩), addL_fr_out (fun j hj rj hrj e => hw ⟨j, rj, hrj, e, (mem_dropN.1 hj).2, .inr (mem_dropN.1 hj).1⟩)]
            exact hslot d hd
        have hsees : Sees o (addL Rs ((List.range' 0 i).filter (memN (dropN m r.pred))).reverse (bif memN r.pred m then s.addM md else s.hide K)) (atM Rs m md s L) := by
          have hnxT : (bif memN r.pred m then s.addM md else s.hide K).nx = s.nx := by cases memN r.pred m <;> rfl
          refine ⟨by unfold atM; rw [(addL_n Rs _ _).2, (addL_n Rs _ _).2, hnxT, (hbn L).2.1], fun x hx => ?_, fun m' b hb => ?_, fun d hd => ?_⟩
          · cases x with
            | tmp t =>
              exact hreads t (by simp only [readsOf]; refine List.mem_append.2 (.inl ?_); rw [List.mem_filterMap]; exact ⟨.tmp t, hx, rfl⟩)
            | _ => rfl
          · unfold atM
            by_cases hw : ∃ j, j ∈ ((List.range' 0 i).filter (memN (dropN m r.pred))).reverse ∧ ∃ rj : HR, Rs[j]? = some rj ∧ ∃ b', look rj.new m' = some b'
            · obtain ⟨j, hj, rj, hrj, b', hb'⟩ := hw
              rw [addL_hp_in hheadT hj hrj hb'] at hb
              rw [addL_hp_in (hbase L) (hsub j hj) hrj hb']; exact hb
            · have hnone : ∀ j ∈ ((List.range' 0 i).filter (memN (dropN m r.pred))).reverse, ∀ rj : HR, Rs[j]? = some rj → look rj.new m' = none := fun j hj rj hrj => by
                cases hq2 : look rj.new m' with
                | none => rfl
                | some b => exact absurd ⟨j, hj, rj, hrj, b, hq2⟩ hw
              rw [addL_hp_out hnone] at hb
              -- what the base shows, the other base shows, and nobody hides it
              have hbb : look (bif memN L m then s.addM md else s).hp m' = some b := by
                cases hp : memN r.pred m <;> rw [hp] at hb
                · have hb : look (hideHp K s.hp) m' = some b := hb
                  obtain ⟨b1, b2⟩ := look_hide hb
                  cases hq : memN L m
                  · exact b1
                  · show look (md.h ++ s.hp) m' = some b
                    rw [look_append, look_none_of (l := md.h) (n := m') (fun e he e2 => by
                      rcases m13 e he with hk | ⟨t, k2, k3⟩
                      · exact b2 (e2 ▸ hk)
                      · have := noRange_iff.1 (m11 t k2).2 _ (look_mem b1)
                        simp only at this
                        omega)]
                    exact b1
                · have : memN L m = true := memN_iff.2 (hpred m (memN_iff.1 hp)).1
                  rw [this]; exact hb
              have h0 : look (addL Rs [] (bif memN L m then s.addM md else s)).hp m' = some b := hbb
              exact addL_hp_mono (hbase L) (fun j hj => by cases hj) h0
          · rw [h2] at hd; injection hd with hd; subst hd
            have hr0 := addL_room (hbase L) h1 (L := dropN m L) (fun h => hiL (mem_dropN.1 h).1)
            unfold atM
            rw [(addL_n Rs _ _).2, (hbn L).2.1]
            rw [(hbn L).2.1] at hr0
            exact hr0
        have h9' := astepH_sees hsees hreads h9
        have hadd : (atM Rs m md s L).add o.dst r.v r.new = some (atM Rs m md s (i :: L)) := by
          rw [h2]
          have hbl : Nat.blt r.dst s.n = true := by simpa using h3
          have hne : Nat.beq i m = false := by
            cases hb : Nat.beq i m
            · rfl
            · exact absurd (Nat.eq_of_beq_eq_true hb) him
          have hmm : memN (i :: L) m = memN L m := by simp only [memN, hne, Bool.false_or]
          unfold atM
          have hdd : dropN m (i :: L) = i :: dropN m L := by simp only [dropN, hne, cond_false]
          rw [hmm, hdd]
          simp only [St.add, (addL_n Rs _ _).1, (hbn L).1, hbl, cond_true, addL, h1, St.addR]
        exact astepH_ok hr i3 h9' h10 hadd (fun G' a' w' hr' => ih (i :: L) _ G' a' w' (by simp; omega) hnext hr')
end
end Go.Sym
/- A region that draws its order and holds one operation that changes own memory, with what is emitted. -/
namespace Go.Sym
open Go.RowKit
variable [LC]

/-- the operand from which an operand of the region is moved -/
def resolveT (l : List Oper) : Nat → Operand → Operand
  | 0, x => x
  | n + 1, x => match x with
    | .tmp t => match l.find? (fun o => match o.dst with | some d => Nat.beq d t | none => false) with
      | some o => match o.op with
        | .move y => resolveT l n y
        | _ => .tmp t
      | none => .tmp t
    | x => x
/-- the box that an operation changes -/
def modK (s : St) (l : List Oper) (o : Oper) : Option Nat := match o.op with
  | .store _ x _ => match s.ev (resolveT l 8 x) with
    | some (.ptr b _) => some b
    | _ => none
  | .call { callee := .builtin .append, args, argTypes := _ } => match args.toList with
    | x :: _ => match s.ev (resolveT l 8 x) with
      | some (.own k) => some k
      | _ => none
    | [] => none
  | _ => none
def findM (s : St) (l : List Oper) : List Oper → Nat → Option (Nat × Nat)
  | [], _ => none
  | o :: r, i => match modK s l o with
    | some k => some (i, k)
    | none => findM s l r (i + 1)
def mdNames (s : St) (dst : Option Tmp) (K : List Nat) : List (Nat × Box) → Bool
  | [] => true
  | e :: r => (memN K e.1 || (match dst with | some t => Nat.beq e.1 (s.nx + 16 * t) | none => false)) && mdNames s dst K r
def mdSlots (dst : Option Tmp) : List (Nat × AV) → Bool
  | [] => true
  | e :: r => (match dst with | some t => Nat.beq e.1 t | none => false) && mdSlots dst r
def hasBoxes (s : St) : List Nat → Bool
  | [] => true
  | k :: r => (match look s.hp k with | some _ => true | none => false) && hasBoxes s r
def dstFine (s : St) : Option Tmp → Bool
  | some t => Nat.blt t s.n && noRange (s.nx + 16 * t) s.hp
  | none => true
def headM {R : Type} (P : Program) (tb : Tb) (ops : Array Oper) (s : St) (m : Nat) (K : List Nat) (fin : Md → List HR → List (Nat × Bool) → Option R) : List Oper → Nat → List HR → List (Nat × Bool) → Option Md → Option R
  | [], _, Rs, kn, md => match md with
    | some md => fin md Rs kn
    | none => none
  | o :: l, i, Rs, kn, md => bif Nat.beq i m then
      (match predsOf Rs o.after.toList, o.guard with
      | some pred, none => match areq P tb (addSel pred Rs 0 s) o.op with
        | some q => bif noRange (s.nx + 16 * (s.n + m)) s.hp && freshDst (s.n + m) Rs && readsFine pred (readsOf ops o) Rs 0 && dstFine s o.dst && hasBoxes s K then
            q.K fun d => match modOp P (addSel pred Rs 0 s) d o with
              | some (_, md) => bif mdNames s o.dst K md.h && mdSlots o.dst md.f then headM P tb ops s m K fin l (i + 1) (Rs ++ [⟨s.n + m, .undef, [], pred⟩]) kn (some md) else none
              | none => none
          else none
        | none => none
      | _, _ => none)
    else match o.dst, predsOf Rs o.after.toList with
      | some d, some pred => match (bif memN pred m then (match md with | some md => some (s.addM md) | none => none) else some (s.hide K)) with
        | some base => bif Nat.blt d s.n && noRange (s.nx + 16 * d) s.hp && freshDst d Rs && readsFine pred (readsOf ops o) Rs 0 && writesFine ops d pred i then
            opH P tb ops (addSel (dropN m pred) Rs 0 base) (dropN m pred) Rs kn o fun v new kn' => headM P tb ops s m K fin l (i + 1) (Rs ++ [⟨d, v, new, pred⟩]) kn' md
          else none
        | none => none
      | _, _ => none
def drawM {R : Type} (P : Program) (tb : Tb) (ops : Array Oper) (s : St) (m k : Nat) (K : St → Option R) : Option R :=
  bif edgesFine ops.toList 0 && tailFine ops (headLen ops) && Nat.ble (headLen ops) ops.toList.length && Nat.blt m (headLen ops) then
    headM P tb ops s m [k] (fun md Rs kn => bif (match ops[m]? with | some o => (match o.dst with | some tt => ttFine ops m tt Rs 0 | none => true) | none => false) then
      opsR P tb ops (ops.toList.drop (headLen ops)) (knows Rs kn kn (addSel (dropN m (List.range (headLen ops))) Rs 0 (s.addM md))) K else none) (ops.toList.take (headLen ops)) 0 [] [] none
  else none
def drawX {R : Type} (P : Program) (tb : Tb) (ops : Array Oper) (s : St) (K : St → Option R) : Option R :=
  match findM s ops.toList (ops.toList.take (headLen ops)) 0 with
  | some (m, k) => drawM P tb ops s m k K
  | none => drawR P tb ops s K

section
variable {P : Program} {w₀ : World} {G₀ : Gh} {hp₀ : List (Nat × Box)} {G : Gh} {a : Act} {w : World} {R : Type} {tb : Tb} {s : St}
omit [LC] in
theorem mdNames_iff {dst : Option Tmp} {K : List Nat} : ∀ {l : List (Nat × Box)}, mdNames s dst K l = true → ∀ e ∈ l, e.1 ∈ K ∨ ∃ t, dst = some t ∧ e.1 = s.nx + 16 * t
  | [], _, e, he => by cases he
  | x :: r, h, e, he => by
    simp only [mdNames, Bool.and_eq_true, Bool.or_eq_true] at h
    rcases List.mem_cons.1 he with rfl | he
    · rcases h.1 with h1 | h1
      · exact .inl (memN_iff.1 h1)
      · cases dst with
        | none => cases h1
        | some t => exact .inr ⟨t, rfl, Nat.eq_of_beq_eq_true h1⟩
    · exact mdNames_iff h.2 e he
omit [LC] in
theorem mdSlots_iff {dst : Option Tmp} : ∀ {l : List (Nat × AV)}, mdSlots dst l = true → ∀ e ∈ l, dst = some e.1
  | [], _, e, he => by cases he
  | x :: r, h, e, he => by
    simp only [mdSlots, Bool.and_eq_true] at h
    rcases List.mem_cons.1 he with rfl | he
    · cases dst with
      | none => cases h.1
      | some t => rw [Nat.eq_of_beq_eq_true h.1]
    · exact mdSlots_iff h.2 e he
omit [LC] in
theorem hasBoxes_iff : ∀ {K : List Nat}, hasBoxes s K = true → ∀ k ∈ K, ∃ b, look s.hp k = some b
  | [], _, k, hk => by cases hk
  | x :: r, h, k, hk => by
    simp only [hasBoxes, Bool.and_eq_true] at h
    rcases List.mem_cons.1 hk with rfl | hk
    · cases hq : look s.hp k with
      | none => rw [hq] at h; cases h.1
      | some b => exact ⟨b, rfl⟩
    · exact hasBoxes_iff h.2 k hk
/-- what is known when the first i operations have been reckoned -/
structure HM (P : Program) (ops : Array Oper) (s : St) (m : Nat) (K : List Nat) (i : Nat) (Rs : List HR) (md : Option Md) : Prop where
  len : Rs.length = i
  pre : md = none → i ≤ m
  oth : ∀ mdv, (∀ x, md = some x → x = mdv) → ∀ j o, j < i → j ≠ m → ops[j]? = some o → HOkM P ops s Rs m mdv K j o
  at_ : ∀ mdv, md = some mdv → m < i ∧ ∀ o, ops[m]? = some o → MOk P ops s Rs m mdv K o
  dst : ∀ (j : Nat) (r : HR), Rs[j]? = some r → j ≠ m → ∃ oj : Oper, ops[j]? = some oj ∧ oj.dst = some r.dst
  dis : ∀ (k k' : Nat) (r r' : HR), k < k' → Rs[k]? = some r → Rs[k']? = some r' → r'.dst ≠ r.dst
theorem HOkM.more {ops : Array Oper} {m : Nat} {mdv : Md} {K : List Nat} {Rs : List HR} {r0 : HR} {j : Nat} {o : Oper} (h : HOkM P ops s Rs m mdv K j o) : HOkM P ops s (Rs ++ [r0]) m mdv K j o := by
  obtain ⟨r, ps, c, j1, j2, j3, j4, j5, j6, j7, j8, j9, j10⟩ := h
  have hj : j < Rs.length := (List.getElem?_eq_some_iff.1 j1).1
  have ht : (Rs ++ [r0]).take j = Rs.take j := by rw [List.take_append_of_le_length (by omega)]
  exact ⟨r, ps, c, by rw [List.getElem?_append_left hj]; exact j1, j2, j3, j4, by rw [ht]; exact j5, by rw [ht]; exact j6, by rw [ht]; exact j7, j8, by rw [ht]; exact j9, j10⟩
omit [LC] in
theorem MOk.more {ops : Array Oper} {m : Nat} {mdv : Md} {K : List Nat} {Rs : List HR} {r0 : HR} {o : Oper} (h : MOk P ops s Rs m mdv K o) : MOk P ops s (Rs ++ [r0]) m mdv K o := by
  obtain ⟨r, ps, d, j1, j2, j3, j4, j5, j6, j7, j8, j9, j10⟩ := h
  have hj : m < Rs.length := (List.getElem?_eq_some_iff.1 j1).1
  have ht : (Rs ++ [r0]).take m = Rs.take m := by rw [List.take_append_of_le_length (by omega)]
  exact ⟨r, ps, d, by rw [List.getElem?_append_left hj]; exact j1, j2, j3, j4, j5, by rw [ht]; exact j6, by rw [ht]; exact j7, by rw [ht]; exact j8, by rw [ht]; exact j9, j10⟩
omit [LC] in
theorem dis_more {Rs : List HR} {r0 : HR} (hd : ∀ (k k' : Nat) (r r' : HR), k < k' → Rs[k]? = some r → Rs[k']? = some r' → r'.dst ≠ r.dst) (hf : freshDst r0.dst Rs = true) : ∀ (k k' : Nat) (r r' : HR), k < k' → (Rs ++ [r0])[k]? = some r → (Rs ++ [r0])[k']? = some r' → r'.dst ≠ r.dst := by
  intro k k' r r' hk h1 h2
  have hk' : k' < (Rs ++ [r0]).length := (List.getElem?_eq_some_iff.1 h2).1
  simp only [List.length_append, List.length_cons, List.length_nil] at hk'
  rw [List.getElem?_append_left (by omega)] at h1
  by_cases hq : k' < Rs.length
  · rw [List.getElem?_append_left hq] at h2
    exact hd k k' r r' hk h1 h2
  · have : k' = Rs.length := by omega
    subst this
    rw [List.getElem?_append_right (Nat.le_refl _), Nat.sub_self] at h2
    simp only [List.getElem?_cons_zero, Option.some.injEq] at h2; subst h2
    exact fun e => freshDst_iff.1 hf r (List.mem_of_getElem? h1) e.symm
theorem headM_run (hT : ∀ e ∈ tb.ents, e.Sound P) {ops : Array Oper} {m : Nat} {K : List Nat} {fin : Md → List HR → List (Nat × Bool) → Option R} {x : R} : ∀ (l : List Oper) (i : Nat) (Rs : List HR) (kn : List (Nat × Bool)) (md : Option Md), (∀ j, j < l.length → ops[i + j]? = l[j]?) → KnOk Rs kn → HM P ops s m K i Rs md →
    headM P tb ops s m K fin l i Rs kn md = some x → ∃ mdv Rs' kn', fin mdv Rs' kn' = some x ∧ KnOk Rs' kn' ∧ HM P ops s m K (i + l.length) Rs' (some mdv)
  | [], i, Rs, kn, md, _, hkn, hI, h => by
    unfold headM at h
    split at h
    · rename_i mdv; exact ⟨mdv, Rs, kn, h, hkn, hI⟩
    · cases h
  | o :: l, i, Rs, kn, md, hl, hkn, hI, h => by
    have ho : ops[i]? = some o := by have := hl 0 (by simp); simpa using this
    have hl' : ∀ j, j < l.length → ops[i + 1 + j]? = l[j]? := fun j hj => by have := hl (j + 1) (by simp; omega); simpa [Nat.add_assoc, Nat.add_comm 1 j] using this
    have knm : ∀ (r0 : HR), KnOk Rs kn → KnOk (Rs ++ [r0]) kn := fun r0 hk j d hj => by
      obtain ⟨r, i1, i2⟩ := hk j d hj
      exact ⟨r, by rw [List.getElem?_append_left (List.getElem?_eq_some_iff.1 i1).1]; exact i1, i2⟩
    have htl : ∀ r0 : HR, (Rs ++ [r0]).take i = Rs := fun r0 => by rw [← hI.len, List.take_left]
    have hge : ∀ r0 : HR, (Rs ++ [r0])[i]? = some r0 := fun r0 => by rw [← hI.len]; simp
    have dst' : ∀ r0 : HR, (i = m ∨ o.dst = some r0.dst) → ∀ (j : Nat) (r : HR), (Rs ++ [r0])[j]? = some r → j ≠ m → ∃ oj : Oper, ops[j]? = some oj ∧ oj.dst = some r.dst := fun r0 hr0 j r hr hjm => by
      by_cases hji : j < Rs.length
      · rw [List.getElem?_append_left hji] at hr; exact hI.dst j r hr hjm
      · have hj' : j < (Rs ++ [r0]).length := (List.getElem?_eq_some_iff.1 hr).1
        simp only [List.length_append, List.length_cons, List.length_nil] at hj'
        have : j = i := by have := hI.len; omega
        subst this
        rw [hge] at hr; cases hr
        rcases hr0 with h | h
        · exact absurd h hjm
        · exact ⟨o, ho, h⟩
    simp only [headM] at h
    cases him : Nat.beq i m <;> rw [him] at h <;> simp only [cond_true, cond_false] at h
    · have him' : i ≠ m := fun e => by subst e; simp at him
      split at h
      · rename_i d pred hd hp
        split at h
        · rename_i base hb
          cases hc : Nat.blt d s.n && noRange (s.nx + 16 * d) s.hp && freshDst d Rs && readsFine pred (readsOf ops o) Rs 0 && writesFine ops d pred i <;> rw [hc] at h <;> simp only [cond_true, cond_false, reduceCtorEq] at h
          simp only [Bool.and_eq_true] at hc
          obtain ⟨⟨⟨⟨b1, b2⟩, b3⟩, b4⟩, b5⟩ := hc
          have hsel : ∀ j r, memN (dropN m pred) j = true → Rs[j]? = some r → look (addSel (dropN m pred) Rs 0 base).fr r.dst = some r.v := fun j r hm hr =>
            addSel_in (k := j) hr (by rw [Nat.zero_add]; exact hm) (fun k' r' hk hr' => hI.dis j k' r r' hk hr hr')
          have hdst : ∀ (j : Nat) (r : HR), memN (dropN m pred) j = true → Rs[j]? = some r → ∃ oj : Oper, ops[j]? = some oj ∧ oj.dst = some r.dst := fun j r hm hr => hI.dst j r hr (mem_dropN.1 (memN_iff.1 hm)).2
          obtain ⟨ps, c, v, new, kn', h1, h2, h3, h4⟩ := opH_ok hT hkn hsel hdst h
          have hI' : HM P ops s m K (i + 1) (Rs ++ [⟨d, v, new, pred⟩]) md := by
            refine ⟨by rw [List.length_append, hI.len]; rfl, fun hm => ?_, fun mdv hmd j oj hj hjm hoj => ?_, fun mdv hmd => ?_, dst' _ (.inr hd), dis_more hI.dis b3⟩
            · have := hI.pre hm; omega
            · by_cases hji : j < i
              · exact (hI.oth mdv hmd j oj hji hjm hoj).more
              · have : j = i := by omega
                subst this
                rw [ho] at hoj; cases hoj
                refine ⟨⟨d, v, new, pred⟩, ps, c, hge _, hd, Nat.lt_of_lt_of_le (Nat.lt_succ_self d) (Nat.le_of_ble_eq_true b1), b2, by rw [htl]; exact hp, by rw [htl]; exact b3, by rw [htl]; exact b4, b5, ?_, h2⟩
                rw [htl]
                have : (bif memN pred m then s.addM mdv else s.hide K) = base := by
                  cases hq : memN pred m <;> rw [hq] at hb
                  · simp only [cond_false, Option.some.injEq] at hb ⊢; exact hb
                  · simp only [cond_true] at hb ⊢
                    cases md with
                    | none => cases hb
                    | some x =>
                      simp only [Option.some.injEq] at hb
                      rw [← hmd x rfl]; exact hb
                rw [this]; exact h1
            · obtain ⟨k1, k2⟩ := hI.at_ mdv hmd
              exact ⟨by omega, fun o' ho' => (k2 o' ho').more⟩
          obtain ⟨mdv, Rs', kn2, e1, e2, e3⟩ := headM_run hT l (i + 1) (Rs ++ [⟨d, v, new, pred⟩]) kn' md hl' (fun j d' hj => by
            obtain ⟨r, i1, i2⟩ := h3 j d' hj
            exact ⟨r, by rw [List.getElem?_append_left (List.getElem?_eq_some_iff.1 i1).1]; exact i1, i2⟩) hI' h4
          exact ⟨mdv, Rs', kn2, e1, e2, by rw [List.length_cons, show i + (l.length + 1) = i + 1 + l.length by omega]; exact e3⟩
        · cases h
      · cases h
    · have him' := Nat.eq_of_beq_eq_true him
      subst him'
      split at h
      · rename_i pred hp hg
        split at h
        · rename_i q hq
          cases hc : noRange (s.nx + 16 * (s.n + i)) s.hp && freshDst (s.n + i) Rs && readsFine pred (readsOf ops o) Rs 0 && dstFine s o.dst && hasBoxes s K <;> rw [hc] at h <;> simp only [cond_true, cond_false, reduceCtorEq] at h
          simp only [Bool.and_eq_true] at hc
          obtain ⟨⟨⟨⟨b1, b2⟩, b3⟩, b4⟩, b5⟩ := hc
          obtain ⟨d, q1, q2⟩ := Rq.K_some h
          split at q2
          · rename_i ps mdv hmo
            cases hf : mdNames s o.dst K mdv.h && mdSlots o.dst mdv.f <;> rw [hf] at q2 <;> simp only [cond_true, cond_false, reduceCtorEq] at q2
            simp only [Bool.and_eq_true] at hf
            have hps := areq_ok hT hq q1 (modOp_aex hmo)
            have hM : ∀ o', ops[i]? = some o' → MOk P ops s (Rs ++ [⟨s.n + i, .undef, [], pred⟩]) i mdv K o' := fun o' ho' => by
              rw [ho] at ho'; cases ho'
              refine ⟨⟨s.n + i, .undef, [], pred⟩, ps, d, hge _, hg, rfl, ⟨rfl, rfl⟩, b1, by rw [htl]; exact hp, by rw [htl]; exact b2, by rw [htl]; exact b3, by rw [htl]; exact hmo, hps, fun t ht => ?_, mdSlots_iff hf.2, mdNames_iff hf.1, hasBoxes_iff b5⟩
              rw [ht] at b4
              simp only [dstFine, Bool.and_eq_true, Nat.blt_eq] at b4
              exact b4
            have hnone : md = none := by
              cases md with
              | none => rfl
              | some x => have := (hI.at_ x rfl).1; omega
            have hI' : HM P ops s i K (i + 1) (Rs ++ [⟨s.n + i, .undef, [], pred⟩]) (some mdv) := by
              refine ⟨by rw [List.length_append, hI.len]; rfl, fun hm => (by cases hm), fun mdw hmd j oj hj hjm hoj => ?_, fun mdw hmd => ?_, dst' _ (.inl rfl), dis_more hI.dis b2⟩
              · exact (hI.oth mdw (fun y hy => by rw [hnone] at hy; cases hy) j oj (by omega) hjm hoj).more
              · cases hmd; exact ⟨by omega, hM⟩
            obtain ⟨mdw, Rs', kn2, e1, e2, e3⟩ := headM_run hT l (i + 1) (Rs ++ [⟨s.n + i, .undef, [], pred⟩]) kn (some mdv) hl' (knm _ hkn) hI' q2
            exact ⟨mdw, Rs', kn2, e1, e2, by rw [List.length_cons, show i + (l.length + 1) = i + 1 + l.length by omega]; exact e3⟩
          · cases q2
        · cases h
      · cases h

theorem drawM_ok (hT : ∀ e ∈ tb.ents, e.Sound P) (hm : P.follows .mixedOrders = true) {ops : Array Oper} {m k : Nat} {K : St → Option R} {x : R} (h : drawM P tb ops s m k K = some x) {N : Act → World → Prop} (hN : ∀ s', K s' = some x → ∀ G' a' w', Rel w₀ G₀ hp₀ G' s' a' w' → N a' w')
    (hr : Rel w₀ G₀ hp₀ G s a w) (id : Nat) (b : Frame) (kk : List Item) (cs : List Frame) (hk : b.kind = .normal) :
    ∃ a' w', N a' w' ∧ Steps P (lone (b.atR a (.code (.region id ops true) :: kk)) cs w) (lone (b.atR a' kk) cs w') := by
  unfold drawM at h
  generalize headLen ops = n at h
  cases hb : edgesFine ops.toList 0 && tailFine ops n && Nat.ble n ops.toList.length && Nat.blt m n <;> rw [hb] at h <;> simp only [cond_true, cond_false, reduceCtorEq] at h
  simp only [Bool.and_eq_true] at hb
  obtain ⟨⟨⟨b1, b2⟩, b3⟩, b4⟩ := hb
  have hn : n ≤ ops.size := by have := Nat.le_of_ble_eq_true b3; simpa using this
  have hmn : m < n := by simpa using b4
  have hlen : (ops.toList.take n).length = n := by simp; omega
  obtain ⟨md, Rs, kn, k1, kkn, hI⟩ := headM_run hT (ops.toList.take n) 0 [] [] none (fun j hj => by
    rw [hlen] at hj
    rw [List.getElem?_take, if_pos hj, Nat.zero_add]; simp) (fun j d h => by cases h) ⟨rfl, fun _ => Nat.zero_le _, fun _ _ j o hj => (by omega), fun _ h => (by cases h), fun j r h => (by simp at h), fun k k' r r' _ h => by simp at h⟩ h
  rw [Nat.zero_add, hlen] at hI
  cases hf : (match ops[m]? with | some o => (match o.dst with | some tt => ttFine ops m tt Rs 0 | none => true) | none => false) <;> rw [hf] at k1 <;> simp only [cond_true, cond_false, reduceCtorEq] at k1
  have htt : ∀ o tt, ops[m]? = some o → o.dst = some tt → ttFine ops m tt Rs 0 = true := fun o tt ho hd => by
    rw [ho] at hf
    simp only [hd] at hf
    exact hf
  have hop : ∀ i, i < n → ops[i]? = some (ops[i]?.getD default) := fun i hi => by
    have : i < ops.size := by omega
    simp [this]
  have hH : ∀ i o, i < n → i ≠ m → ops[i]? = some o → HOkM P ops s Rs m md [k] i o := fun i o hi him ho => hI.oth md (fun y hy => by cases hy; rfl) i o hi him ho
  have hM := (hI.at_ md rfl).2
  have hh : Head s Rs := by
    refine ⟨fun i j r r' hi hj hd => ?_, fun i r hi => ?_, fun i r hi => ?_⟩
    · rcases Nat.lt_trichotomy i j with hlt | heq | hgt
      · exact absurd hd.symm (hI.dis i j r r' hlt hi hj)
      · exact heq
      · exact absurd hd (hI.dis j i r' r hgt hj hi)
    · have hi' : i < n := by have := (List.getElem?_eq_some_iff.1 hi).1; rw [hI.len] at this; exact this
      by_cases him : i = m
      · subst him
        obtain ⟨rm, _, _, m1, _, _, m4, _⟩ := hM _ (hop i hi')
        rw [hi] at m1; cases m1
        rw [m4.1]; intro e he; cases he
      · obtain ⟨ri, ps, _, j1, j2, _, _, _, _, _, _, j9, _⟩ := hH i _ hi' him (hop i hi')
        rw [hi] at j1; injection j1 with j1; subst j1
        have h9 := astepH_names j2 j9
        have hlen' : ∀ k, k < (Rs.take i).length → Rs[0 + k]? = (Rs.take i)[k]? := fun k hk => by
          rw [List.getElem?_take, if_pos (by simp at hk; omega), Nat.zero_add]
        rw [addSel_eq (Rs := Rs) (Rs.take i) 0 _ hlen', (addL_n Rs _ _).2] at h9
        have hbx : (bif memN r.pred m then s.addM md else s.hide [k]).nx = s.nx := by cases memN r.pred m <;> rfl
        rw [hbx] at h9
        exact h9
    · have hi' : i < n := by have := (List.getElem?_eq_some_iff.1 hi).1; rw [hI.len] at this; exact this
      by_cases him : i = m
      · subst him
        obtain ⟨rm, _, _, m1, _, _, _, m5, _⟩ := hM _ (hop i hi')
        rw [hi] at m1; cases m1
        exact m5
      · obtain ⟨ri, _, _, j1, _, _, j4, _⟩ := hH i _ hi' him (hop i hi')
        rw [hi] at j1; injection j1 with j1; subst j1
        exact j4
  have base : ∀ (G : Gh) (a : Act) (w : World), Rel w₀ G₀ hp₀ G (addSel (dropN m (List.range n)) Rs 0 (s.addM md)) a w → ∀ l, Rel w₀ G₀ hp₀ G (knows Rs kn l (addSel (dropN m (List.range n)) Rs 0 (s.addM md))) a w := by
    intro G a w hr l
    induction l with
    | nil => exact hr
    | cons e l ih =>
      obtain ⟨j, d⟩ := e
      unfold knows
      split
      · rename_i d' r h0 h1
        obtain ⟨r', i1, h2⟩ := kkn j d' h0
        rw [h1] at i1; have := Option.some.inj i1; subst this
        have hj : j < n := by have := (List.getElem?_eq_some_iff.1 h1).1; rw [hI.len] at this; exact this
        have hjm : j ≠ m := fun e => by
          subst e
          obtain ⟨rm, _, _, m1, _, _, m4, _⟩ := hM _ (hop j hj)
          have hv : rm.v = .undef := m4.2
          rw [h1] at m1; cases m1
          rw [hv] at h2; cases h2
        refine ih.know ?_
        have hin : look (addSel (dropN m (List.range n)) Rs 0 (s.addM md)).fr r.dst = some r.v := addSel_in (k := j) h1 (by rw [Nat.zero_add, memN_iff, mem_dropN]; exact ⟨List.mem_range.2 hj, hjm⟩) (fun k' r' hk hr' => hI.dis j k' r r' hk h1 hr')
        obtain ⟨v, v1, v2⟩ := hr.frame r.dst _ hin
        rw [h2] at v2
        have v2 : v = .bool d' := v2
        subst v2
        show a.tmps.getD r.dst undef = _
        rw [Array.getD_eq_getD_getElem?, v1]; rfl
      · exact ih
  refine dRegionDraw hm ?_ b kk cs hk
  refine headM_ok (w₀ := w₀) (G₀ := G₀) (hp₀ := hp₀) (N := N) (md := md) (K := [k]) hn hmn b1 b2 hI.len hH hM htt hh (fun G a w listed hr' hu => tail_ok hT b1 b2 hN _ n (Nat.le_refl _) rfl hn _ G a w listed k1 (base G a w hr' kn) hu) ops.size [] _ G a _ (by simp) ?_ ?_
  · refine ⟨List.nodup_nil, fun i hi => (by cases hi), by simp, fun j hj => ?_, fun i hi => (by cases hi)⟩
    rw [Array.getD_eq_getD_getElem?]
    simp [hj]
  · exact ⟨hr.defers, hr.size, hr.frame, hr.fresh, ⟨⟨hr.fin.mem.agree, hr.fin.mem.one, hr.fin.mem.holds, hr.fin.mem.apart⟩, ⟨hr.fin.bel.os, hr.fin.bel.tape, hr.fin.bel.output, hr.fin.bel.size, hr.fin.bel.block⟩, hr.fin.imm_le, hr.fin.imm_new, hr.fin.base, hr.fin.keep, hr.fin.keepOwn⟩⟩
theorem drawX_ok (hT : ∀ e ∈ tb.ents, e.Sound P) (hm : P.follows .mixedOrders = true) {ops : Array Oper} {K : St → Option R} {x : R} (h : drawX P tb ops s K = some x) {N : Act → World → Prop} (hN : ∀ s', K s' = some x → ∀ G' a' w', Rel w₀ G₀ hp₀ G' s' a' w' → N a' w')
    (hr : Rel w₀ G₀ hp₀ G s a w) (id : Nat) (b : Frame) (k : List Item) (cs : List Frame) (hk : b.kind = .normal) :
    ∃ a' w', N a' w' ∧ Steps P (lone (b.atR a (.code (.region id ops true) :: k)) cs w) (lone (b.atR a' k) cs w') := by
  unfold drawX at h
  split at h
  · exact drawM_ok hT hm h hN hr id b k cs hk
  · exact drawR_ok hT hm h hN hr id b k cs hk
end
end Go.Sym
/- The whole of a body: what is emitted. -/
namespace Go.Sym
open Go.RowKit
variable [LC]

def child (i : Nat) (c : Code) : Code := match c with
  | .seq a b => match i with
    | 0 => a
    | _ => b
  | .cond _ a b => match i with
    | 0 => a
    | _ => b
  | .block _ a => a
  | .loop a => a
  | .scope a => a
  | .rangeFunc _ _ a b => match i with
    | 0 => a
    | _ => b
  | c => c
/-- a part of a body, by the way to it, backwards -/
def sub (body : Code) : List Nat → Code
  | [] => body
  | i :: p => child i (sub body p)
structure PIt where
  kd : Nat
  path : List Nat
  it : Item
def itemAt (body : Code) (kd : Nat) (p : List Nat) : Item := match kd with
  | 0 => .code (sub body p)
  | 1 => match sub body p with
    | .block id _ => .inBlock id
    | c => .code c
  | 2 => match sub body p with
    | .loop x => .inLoop x
    | c => .code c
  | 3 => match sub body p with
    | .scope x => .inScope x
    | c => .code c
  | _ => .beginRound
def PIt.Ok (body : Code) (i : PIt) : Prop := i.it = itemAt body i.kd i.path
abbrev PKey := List (Nat × List Nat)
def itemsAt (body : Code) : PKey → List PIt
  | [] => []
  | (kd, p) :: r => ⟨kd, p, itemAt body kd p⟩ :: itemsAt body r
def items : List PIt → List Item
  | [] => []
  | i :: r => i.it :: items r
def eqKey : PKey → List PIt → Bool
  | [], [] => true
  | (kd, p) :: r, i :: k => Nat.beq kd i.kd && eqNs p i.path && eqKey r k
  | _, _ => false
omit [LC] in
theorem eqKey_items {body : Code} : ∀ {key : PKey} {k : List PIt}, eqKey key k = true → (∀ i ∈ k, i.Ok body) → items (itemsAt body key) = items k
  | [], [], _, _ => rfl
  | (kd, p) :: r, ⟨kd', p', it⟩ :: k, h, hk => by
    simp only [eqKey, Bool.and_eq_true] at h
    obtain ⟨⟨h1, h2⟩, h3⟩ := h
    have h1 := Nat.eq_of_beq_eq_true h1
    have h2 := eqNs_eq h2
    subst h1 h2
    have ho : it = itemAt body kd p := hk _ List.mem_cons_self
    simp only [itemsAt, items]
    rw [eqKey_items h3 (fun i hi => hk i (List.mem_cons_of_mem _ hi)), ho]
  | [], _ :: _, h, _ => by cases h
  | _ :: _, [], h, _ => by cases h
omit [LC] in
theorem itemsAt_ok {body : Code} : ∀ {key : PKey}, ∀ i ∈ itemsAt body key, i.Ok body
  | [], i, h => by cases h
  | (kd, p) :: r, i, h => by
    rcases List.mem_cons.1 h with rfl | h
    · rfl
    · exact itemsAt_ok i h
omit [LC] in
theorem itemAt_code {body : Code} {kd : Nat} {p : List Nat} {c : Code} (h : Item.code c = itemAt body kd p) : sub body p = c := by
  unfold itemAt at h
  split at h
  · injection h with h; exact h.symm
  · split at h
    · cases h
    · injection h with h; exact h.symm
  · split at h
    · cases h
    · injection h with h; exact h.symm
  · split at h
    · cases h
    · injection h with h; exact h.symm
  · cases h
omit [LC] in
theorem itemAt_loop {body : Code} {kd : Nat} {p : List Nat} {c : Code} (h : Item.inLoop c = itemAt body kd p) : sub body p = .loop c := by
  unfold itemAt at h
  split at h
  · cases h
  · split at h <;> cases h
  · split at h
    · rename_i e; injection h with h; subst h; exact e
    · cases h
  · split at h <;> cases h
  · cases h
def exitP (id : Nat) : List PIt → Option (List PIt)
  | [] => none
  | i :: k => match i.it with
    | .inBlock id' => if id' == id then some k else exitP id k
    | _ => exitP id k
omit [LC] in
theorem exitP_some {id : Nat} : ∀ {k k' : List PIt}, exitP id k = some k' → exitTo id (items k) = some (items k') ∧ ∀ i ∈ k', i ∈ k
  | [], _, h => by cases h
  | ⟨kd, p, it⟩ :: k, k', h => by
    simp only [exitP] at h
    split at h
    · rename_i id'
      split at h
      · rename_i he
        simp only [Option.some.injEq] at h; subst h
        exact ⟨by simp only [items, exitTo]; rw [if_pos he], fun i hi => List.mem_cons_of_mem _ hi⟩
      · rename_i he
        obtain ⟨h1, h2⟩ := exitP_some h
        exact ⟨by simp only [items, exitTo]; rw [if_neg he]; exact h1, fun i hi => List.mem_cons_of_mem _ (h2 i hi)⟩
    · rename_i hne
      obtain ⟨h1, h2⟩ := exitP_some h
      refine ⟨?_, fun i hi => List.mem_cons_of_mem _ (h2 i hi)⟩
      (try simp only at hne)
      simp only [items]
      cases it <;> first
        | (exfalso; exact hne _ rfl)
        | (simp only [exitTo]; exact h1)

/- results -/
def aresult (P : Program) (s : St) : ResultVar → Option AV
  | .tmp t => look s.fr t
  | .cell t T => match look s.fr t with
    | some (.ptr b off) => match look s.hp b with
      | some (.cells cs _) => aload P T cs off
      | _ => none
    | some (.oel k sz 0 0) => match look s.hp k, tAgg P T, tSize P T with
      | some (.row τ l _), some true, some _ => bif τ.is1 && Nat.beq sz 1 then some (.arr τ l) else none
      | _, _, _ => none
    | _ => none
/-- arrays that are handed back have their length -/
def resQ (P : Program) (s : St) : ResultVar → Bool
  | .tmp _ => true
  | .cell t T => match look s.fr t with
    | some (.oel k _ 0 0) => match look s.hp k, tSize P T with
      | some (.row _ l _), some n => decide (l.length = n)
      | _, _ => true
    | _ => true
def resQs (P : Program) (s : St) : List ResultVar → Bool
  | [] => true
  | x :: xs => resQ P s x && resQs P s xs
def aresults (P : Program) (s : St) : List ResultVar → Option (List AV)
  | [] => some []
  | x :: xs => match aresult P s x with
    | some v => match aresults P s xs with
      | some vs => some (v :: vs)
      | none => none
    | none => none
def aret (P : Program) (fn : Func) (s : St) : Option AV :=
  match aresults P s fn.results.toList with
  | some vs => match vs with
    | [v] => some v
    | vs => some (.tup vs)
  | none => none
def coR (bs : List (Nat × BPt)) : List ResultVar → List Pt → St → St
  | [], _, s => s
  | x :: xs, ps, s => match ps with
    | [] => s
    | p :: ps => match x with
      | .tmp t => coR bs xs ps (coF bs [(t, p)] s)
      | .cell t _ => match look s.fr t with
        | some (.ptr b off) => coR bs xs ps (coB1 bs b [p] off s)
        | _ => coR bs xs ps s
def ptsOf : Pt → List Pt
  | .tup ps => ps
  | p => [p]
def finV (v : AV) (ids : NM) (p : Pt) (hp : List (Nat × BPt)) (s : St) : Option (p.den × bden hp) :=
  match p.get v ids with
  | some (d, nm) => match bget s.hp hp nm with
    | some (d', nm') => bif distinctOld nm' && allIn nm' hp then some (d, d') else none
    | none => none
  | none => none
def finOne (P : Program) (fn : Func) (ids : NM) (rv : Option AV) (p : Pt) (hp : List (Nat × BPt)) (s : St) : Option (p.den × bden hp) :=
  match rv with
  | some v => finV v ids p hp (coB hp ids hp s)
  | none => match aret P fn (coR hp fn.results.toList (ptsOf p) (coB hp ids hp s)) with
    | some v => finV v ids p hp (coR hp fn.results.toList (ptsOf p) (coB hp ids hp s))
    | none => none
def finQ (P : Program) (fn : Func) (ids : NM) (rv : Option AV) (p : Pt) (hp : List (Nat × BPt)) (s : St) : Bool :=
  match rv with
  | some _ => true
  | none => resQs P (coR hp fn.results.toList (ptsOf p) (coB hp ids hp s)) fn.results.toList
def RS.fin (P : Program) (fn : Func) (ids : NM) (rv : Option AV) (s : St) : {α : Type} → RS α → Option α
  | _, .one p hp _ fro _ => bif finQ P fn ids rv p hp s then (match finOne P fn ids rv p hp s with
    | some y => some (fro y)
    | none => none) else none
  | _, .two l r => match l.fin P fn ids rv s with
    | some a => some (.inl a)
    | none => match r.fin P fn ids rv s with
      | some b => some (.inr b)
      | none => none
structure Lab (R : Type) where
  key : PKey
  ls : LS
  F : ls.den → Option R
def findLab {R : Type} (k : List PIt) : List (Lab R) → Option (Lab R)
  | [] => none
  | l :: ls => bif eqKey l.key k then some l else findLab k ls
/-- among labels at one place: the first that fits -/
def pickLab {R : Type} (ids : NM) (s : St) (k : List PIt) : List (Lab R) → Option (Lab R)
  | [] => none
  | l :: ls => bif eqKey l.key k then (match pickLab ids s k ls with
      | none => some l
      | some l' => match l.ls.get ids (l.ls.co ids s) with
        | some _ => some l
        | none => some l') else pickLab ids s k ls
structure Cx : Type 1 where
  P : Program
  tb : Tb
  fn : Func
  f : FuncId
  ids : NM
  /-- a round: of which loop -/
  rd : Option Nat
  tags : List (List Nat × Nat)
def St.noDf (s : St) : Bool := match s.df with
  | [] => true
  | _ => false
def closeDf : List Nat → St → Option St
  | [], s => some { s with df := [] }
  | n :: ns, s => match look s.hp n with
    | some .dfr => closeDf ns { s with hp := (n, .dead) :: s.hp, df := ns }
    | _ => none
def isNo : Option Jmp → Bool
  | none => true
  | some _ => false
def endq (cx : Cx) {R : Type} (enc : RS R) (j : Option Jmp) (s : St) : Option R :=
  match cx.rd with
  | none => match closeDf s.df s with
    | some s' => enc.fin cx.P cx.fn cx.ids none s'
    | none => none
  | some m => bif s.noDf then
      (match look s.hp m with
      | some (.loop _ _ f n fr ps tag D) => enc.fin cx.P cx.fn cx.ids (some (.val (.bool (isNo j)))) { s with hp := (m, .loop (bif isNo j then .ready else .done) j f n fr ps tag D) :: s.hp }
      | _ => none)
    else none
def St.enterRF (s : St) (f : FuncId) (ps : List Tmp) (tag : Nat) (around : Option Nat) : Option St :=
  bif noRange s.nx s.hp then
    (match around with
    | none => some { s with hp := (s.nx, .loop .ready none f s.n s.fr ps tag (s.nx + 1)) :: (s.nx + 1, .dfr) :: s.hp, df := (s.nx + 1) :: s.df, nx := s.nx + 16 }
    | some m => match look s.hp m with
      | some (.loop _ _ _ _ _ _ _ D) => some { s with hp := (s.nx, .loop .ready none f s.n s.fr ps tag D) :: s.hp, nx := s.nx + 16 }
      | _ => none)
  else none
def rfCall (s : St) (ys : List AV) (d : D) : Option St := match d with
  | .mem names xs hp _ hp' =>
    bif distinctOld names && distinctNew names && noRange s.nx s.hp then
      (match viewHp (rho names) s.hp names, vws false [] (AV.rens (rho names) ys) xs with
      | some hpv, some _ => match vwHp hpv hp with
        | some _ => some { s with hp := backHp (back names hp' s.nx) hp' ++ (deads names ++ s.hp), nx := s.nx + 16 }
        | none => none
      | _, _ => none)
    else none
  | _ => none
def lookT (p : List Nat) : List (List Nat × Nat) → Option Nat
  | [] => none
  | (q, t) :: r => bif eqNs q p then some t else lookT p r
def notBusy : LoopState → Bool
  | .busy => false
  | _ => true
/-- what the call asks for -/
def rfAsk (cx : Cx) (p : List Nat) (g : Operand) (ps : List Tmp) (s : St) : Option (Rq × St × List AV) :=
  match lookT p cx.tags, s.ev g with
  | some tag, some (.fn (.func h) [] cap) => match s.enterRF cx.f ps tag cx.rd with
    | some s1 => match firstQ (callMQ s1 h (.yld s.nx :: cap)) cx.tb.ents with
      | some q => some (q, s1, .yld s.nx :: cap)
      | none => none
    | none => none
  | _, _ => none
def rfPre (cx : Cx) (p : List Nat) (g : Operand) (ps : List Tmp) (s : St) : Option St :=
  match lookT p cx.tags, s.ev g with
  | some tag, some (.fn (.func h) [] cap) => match s.enterRF cx.f ps tag cx.rd with
    | some s1 => match entFor (fun e => keyIs h e.key) cx.tb.ents with
      | some e => some (coB e.hp (nmH s1 e.hp (nmPs e.args (.yld s.nx :: cap))) e.hp (frzL (frzOfs e.args (.yld s.nx :: cap)) s))
      | none => none
    | none => none
  | _, _ => none
/-- behind the call -/
def rfGo {R : Type} (nl : Nat) (a : Rq × St × List AV) (K : Option Jmp → St → Option R) : Option R :=
  a.1.K fun d => match rfCall a.2.1 a.2.2 d with
    | some s3 => match look s3.hp nl with
      | some (.loop st pe _ _ _ _ _ _) => bif notBusy st then K pe { s3 with hp := (nl, .dead) :: s3.hp } else none
      | _ => none
    | none => none
/-- the whole statement: the pending jump, and the state behind it -/
def rfR (cx : Cx) {R : Type} (p : List Nat) (g : Operand) (ps : List Tmp) (s : St) (K : Option Jmp → St → Option R) : Option R :=
  match rfAsk cx p g ps s with
  | some a => rfGo s.nx a K
  | none => match rfPre cx p g ps s with
    | some s' => match rfAsk cx p g ps s' with
      | some a => rfGo s'.nx a K
      | none => none
    | none => none
def run (cx : Cx) {R : Type} (enc : RS R) (labs : List (Lab R)) : Nat → Bool → List PIt → St → Option R
  | 0, _, _, _ => none
  | n + 1, chk, k, s => match (bif chk then pickLab cx.ids s k labs else none) with
    | some lab => match lab.ls.get cx.ids (lab.ls.co cx.ids s) with
      | some d => lab.F d
      | none => none
    | none => match k with
      | [] => endq cx enc none s
      | ⟨_, p, it⟩ :: k' => match it with
        | .code c => match c with
          | .skip => run cx enc labs n true k' s
          | .label _ => run cx enc labs n true k' s
          | .seq x y => run cx enc labs n true (⟨0, 0 :: p, .code x⟩ :: ⟨0, 1 :: p, .code y⟩ :: k') s
          | .cond c x y => match s.ev c with
            | some (.bool b) => bif b then run cx enc labs n true (⟨0, 0 :: p, .code x⟩ :: k') (s.know c true) else run cx enc labs n true (⟨0, 1 :: p, .code y⟩ :: k') (s.know c false)
            | some (.val (.bool b)) => bif b then run cx enc labs n true (⟨0, 0 :: p, .code x⟩ :: k') s else run cx enc labs n true (⟨0, 1 :: p, .code y⟩ :: k') s
            | _ => none
          | .block id x => run cx enc labs n true (⟨0, 0 :: p, .code x⟩ :: ⟨1, p, .inBlock id⟩ :: k') s
          | .loop x => run cx enc labs n true (⟨0, 0 :: p, .code x⟩ :: ⟨2, p, .inLoop x⟩ :: k') s
          | .scope x => run cx enc labs n true (⟨0, 0 :: p, .code x⟩ :: ⟨3, p, .inScope x⟩ :: k') s
          | .exit id => match exitP id k' with
            | some k'' => run cx enc labs n true k'' s
            | none => match cx.rd with
              | some _ => endq cx enc (some (.exit id)) s
              | none => none
          | .region _ ops d => bif d then drawX cx.P cx.tb ops s (fun s' => run cx enc labs n true k' s'.bump) else opsR cx.P cx.tb ops ops.toList s (fun s' => run cx enc labs n true k' s'.bump)
          | .ret => endq cx enc (some .ret) s
          | .rangeFunc g ps _ _ => rfR cx p g ps.toList s fun j s' => match j with
            | none => run cx enc labs n true k' s'
            | some .ret => endq cx enc (some .ret) s'
            | some (.exit id) => match exitP id k' with
              | some k'' => run cx enc labs n true k'' s'
              | none => match cx.rd with
                | some _ => endq cx enc (some (.exit id)) s'
                | none => none
          | _ => none
        | .inBlock _ => run cx enc labs n true k' s
        | .inScope _ => run cx enc labs n true k' s
        | .inLoop x => run cx enc labs n true (⟨0, 0 :: p, .code x⟩ :: ⟨2, p, .inLoop x⟩ :: k') s
        | .beginRound => match cx.rd with
          | some m => match look s.hp m with
            | some (.loop .ready pe f n' fr ps tag D) => run cx enc labs n true k' { s with hp := (m, .loop .busy pe f n' fr ps tag D) :: s.hp }
            | _ => none
          | none => none
        | _ => none
end Go.Sym
/- The whole of a body: what is emitted is what the machine does. -/
namespace Go.Sym
open Go.RowKit
variable [LC]

/-- from here the call (or the round) comes to its end -/
def Arrives (P : Program) (ro : Option Nat) (f : FuncId) (x : Machine) (cs : List Frame) (Q : Value → World → Prop) : Prop :=
  match ro with
  | none => ∃ v w' fr, Q v w' ∧ Steps P x (lone fr cs w') ∧ fr.fn = f ∧ fr.leaving P w' (.returned v)
  | some _ => ∀ c cs', cs = c :: cs' → ∃ v w', Q v w' ∧ Steps P x (lone (c.finish v) cs' w')
omit [LC] in
theorem Arrives.head {P : Program} {ro : Option Nat} {f : FuncId} {x y : Machine} {cs : List Frame} {Q : Value → World → Prop} (h : Steps P x y) (k : Arrives P ro f y cs Q) : Arrives P ro f x cs Q := by
  cases ro with
  | none => obtain ⟨v, w', fr, h1, h2, h3⟩ := k; exact ⟨v, w', fr, h1, h.trans h2, h3⟩
  | some l => exact fun c cs' e => by obtain ⟨v, w', h1, h2⟩ := k c cs' e; exact ⟨v, w', h1, h.trans h2⟩

section
variable {P : Program} {w₀ : World} {G₀ : Gh} {hp₀ : List (Nat × Box)} {G : Gh} {s : St} {a : Act} {w : World}

def resOf (tmps : Array Value) (x : ResultVar) : Sem Value := match x with
  | .tmp t => pure (tmps.getD t undef)
  | .cell a t => do loadVar t (← asAddr (tmps.getD a undef))
omit [LC] in
theorem results_eq (fn : Func) (tmps : Array Value) : results fn tmps = (do let vs ← fn.results.mapM (resOf tmps); pure (if h : vs.size = 1 then vs[0] else .tuple vs)) := rfl
theorem aresult_ok (hr : Rel w₀ G₀ hp₀ G s a w) {x : ResultVar} {v : AV} (hq : resQ P s x = true) (h : aresult P s x = some v) : ∃ u, (resOf a.tmps x).run P w = .ok u w ∧ Rep v G u := by
  cases x with
  | tmp t =>
    obtain ⟨u, h1, h2⟩ := hr.frame t v h
    exact ⟨u, by simp [resOf, Array.getD_eq_getD_getElem?, h1], h2⟩
  | cell t T =>
    simp only [aresult] at h
    split at h
    · rename_i b off hb
      split at h
      · rename_i cs T' hc
        obtain ⟨u, h1, B, hB, rfl⟩ := hr.frame _ _ hb
        obtain ⟨B', vs, k1, k2, k3, _⟩ := hr.fin.mem.holds _ _ hc
        rw [k1] at hB; injection hB with hB; subst hB
        obtain ⟨z, hz, hrz⟩ := run_loadVar' (P := P) (w := w) h (o := 0) k3 (fun j u hu => by rw [Nat.zero_add]; exact cell_of_heap k2 hu)
        rw [Nat.zero_add] at hz
        exact ⟨z, by simp [resOf, Array.getD_eq_getD_getElem?, h1, asAddr, hz], hrz⟩
      · cases h
    · rename_i k sz hb
      split at h
      · rename_i τ l E n hl hagg hn
        simp only [resQ, hb, hl, hn, decide_eq_true_eq] at hq
        cases hbb : τ.is1 && Nat.beq sz 1 <;> rw [hbb] at h <;> simp only [cond_true, cond_false, reduceCtorEq, Option.some.injEq] at h
        subst h
        simp only [Bool.and_eq_true] at hbb
        have hsz : τ.sz = 1 := is1_sz hbb.1
        obtain ⟨u, h1, B, n0, c0, ho, rfl⟩ := hr.frame _ _ hb
        obtain ⟨ad, c', q1, q2⟩ := hr.fin.mem.holds _ _ hl
        rw [ho] at q1; simp only [Option.some.injEq, Prod.mk.injEq] at q1
        obtain ⟨rfl, rfl, rfl⟩ := q1
        rcases q2 with ⟨q2, _⟩ | ⟨g, vs, fz, k1, k2, k3, k4, k5, k6, k7, k8, k9⟩
        · cases q2
        · simp only [Option.some.injEq, Addr.mk.injEq, and_true] at k1
          subst k1
          have hfl : (l.flatMap τ.enc).length = n := by rw [flat_len, hsz, hq, Nat.mul_one]
          have hload : aload P T (l.flatMap τ.enc) 0 = some (.agg (l.flatMap τ.enc)) := by
            unfold aload
            rw [hagg, hn]
            have : Nat.ble (0 + n) (l.flatMap τ.enc).length = true := by rw [hfl, Nat.zero_add]; simp
            simp only [this, cond_true, List.drop_zero]
            rw [List.take_of_length_le (by rw [hfl]; exact Nat.le_refl _)]
          obtain ⟨u, hu, us, rfl, hru⟩ := run_loadVar' (P := P) (w := w) hload (B := B) (o := 0) k7 (fun j u hu => by
            rw [List.getElem?_take] at hu
            split at hu
            · rw [Nat.zero_add]; exact cell_of_heap k2 hu
            · cases hu)
          simp only [Nat.add_zero] at hu
          refine ⟨.agg us, by simp [resOf, Array.getD_eq_getD_getElem?, h1, asAddr, hu], ?_⟩
          have := reps_arr (G := G) hbb.1 hru
          simpa using this
      · cases h
    · cases h
theorem aresults_ok (hr : Rel w₀ G₀ hp₀ G s a w) : ∀ {xs : List ResultVar} {vs : List AV}, resQs P s xs = true → aresults P s xs = some vs →
    ∃ us : List Value, (xs.mapM (resOf a.tmps)).run P w = .ok us w ∧ Reps vs G us
  | [], vs, _, h => by simp only [aresults, Option.some.injEq] at h; subst h; exact ⟨[], by simp, trivial⟩
  | x :: xs, vs, hq, h => by
    simp only [resQs, Bool.and_eq_true] at hq
    simp only [aresults] at h
    split at h
    · rename_i v hv
      split at h
      · rename_i us hus
        simp only [Option.some.injEq] at h; subst h
        obtain ⟨u, hu, hru⟩ := aresult_ok hr hq.1 hv
        obtain ⟨us', hu', hru'⟩ := aresults_ok hr hq.2 hus
        refine ⟨u :: us', ?_, hru, hru'⟩
        rw [List.mapM_cons]
        simp only [Sem.run_bind, hu, Result.andThen_ok, hu', Sem.run_pure]
      · cases h
    · cases h
theorem aret_ok (hr : Rel w₀ G₀ hp₀ G s a w) {fn : Func} {v : AV} (hq : resQs P s fn.results.toList = true) (h : aret P fn s = some v) : ∃ u, (results fn a.tmps).run P w = .ok u w ∧ Rep v G u := by
  unfold aret at h
  have key : ∀ vs, aresults P s fn.results.toList = some vs → ∃ us : List Value, (results fn a.tmps).run P w = .ok (if h : us.toArray.size = 1 then us.toArray[0] else .tuple us.toArray) w ∧ Reps vs G us := fun vs hv => by
    obtain ⟨us, h1, h2⟩ := aresults_ok hr hq hv
    refine ⟨us, ?_, h2⟩
    rw [results_eq, Array.mapM_eq_mapM_toList]
    simp only [Sem.run_bind, Sem.run_map, h1, Result.andThen_ok, Sem.run_pure]
  split at h
  · rename_i vs hv
    obtain ⟨us, h1, h2⟩ := key _ hv
    split at h
    · simp only [Option.some.injEq] at h; subst h
      match us, h2 with
      | [u], h2 => exact ⟨u, by rw [h1]; rfl, h2.1⟩
      | [], h2 => exact h2.elim
      | _ :: _ :: _, h2 => exact h2.2.elim
    · rename_i hne
      simp only [Option.some.injEq] at h; subst h
      refine ⟨.tuple us.toArray, ?_, us.toArray, rfl, by simpa using h2⟩
      rw [h1, dif_neg]
      intro he
      have hl := h2.length
      simp at he
      rw [he] at hl
      match vs, hl, hne with
      | [x], _, hne => exact hne x rfl
  · cases h
theorem Rel.coR {bs : List (Nat × BPt)} : ∀ {xs : List ResultVar} {ps : List Pt} {s : St} {G : Gh}, Rel w₀ G₀ hp₀ G s a w → ∃ G', Rel w₀ G₀ hp₀ G' (coR bs xs ps s) a w
  | [], _, s, G, hr => ⟨G, hr⟩
  | x :: xs, ps, s, G, hr => by
    unfold Sym.coR
    split
    · exact ⟨G, hr⟩
    · split
      · obtain ⟨G', hr'⟩ := hr.coF (bs := bs) (l := [(_, _)])
        exact Rel.coR hr'
      · split
        · obtain ⟨G', hr'⟩ := hr.coB1 (bs := bs)
          exact Rel.coR hr'
        · exact Rel.coR hr
theorem finV_ok (hr : Rel w₀ G₀ hp₀ G s a w) {ids : NM} (hid : ∀ n bx, look hp₀ n = some bx → lookN ids n = some n) {v : AV} {p : Pt} {hp : List (Nat × BPt)} {y : p.den × bden hp} (h : finV v ids p hp s = some y) :
    ∃ G', Fin w₀ G₀ hp₀ G' (bput hp y.2) w ∧ ∀ u, Rep v G u → Rep (p.put y.1) G' u := by
  unfold finV at h
  split at h
  · rename_i d nm h1
    split at h
    · rename_i d' nm' h2
      cases hq : distinctOld nm' && allIn nm' hp <;> rw [hq] at h <;> simp only [cond_true, cond_false, reduceCtorEq] at h
      have h := Option.some.inj h; subst h
      simp only [Bool.and_eq_true] at hq
      obtain ⟨g1, g2⟩ := Pt.get_seen h1
      obtain ⟨b1, b2⟩ := bget_seen h2
      obtain ⟨b3, _⟩ := b2 nm' hq.1 (SubN.refl _)
      exact ⟨G.view nm', hr.fin.fit hq.1 (fun n bx hb => b1 _ _ (g1 _ _ (hid n bx hb))) b3, fun u hu => (g2 nm' hq.1 b1).rep hu⟩
    · cases h
  · cases h
/-- what is handed back, and how -/
def RetOk (P : Program) (fn : Func) (rv : Option AV) (a : Act) (w : World) (Q : Value → Prop) : Prop :=
  match rv with
  | none => ∃ u, (results fn a.tmps).run P w = .ok u w ∧ Q u
  | some x => ∀ b, x = .val (.bool b) → Q (.bool b)
theorem finOne_ok (hr : Rel w₀ G₀ hp₀ G s a w) {ids : NM} (hid : ∀ n bx, look hp₀ n = some bx → lookN ids n = some n) {fn : Func} {rv : Option AV} {p : Pt} {hp : List (Nat × BPt)} {y : p.den × bden hp} (hq : finQ P fn ids rv p hp s = true) (h : finOne P fn ids rv p hp s = some y) :
    RetOk P fn rv a w fun u => ∃ G', Fin w₀ G₀ hp₀ G' (bput hp y.2) w ∧ Rep (p.put y.1) G' u := by
  unfold finOne at h
  split at h
  · rename_i x
    obtain ⟨G1, hr1⟩ := hr.coB (bs := hp) (nm := ids) (l := hp)
    obtain ⟨G', h1, h2⟩ := finV_ok hr1 hid h
    exact fun b e => ⟨G', h1, h2 _ (by subst e; rfl)⟩
  · split at h
    · rename_i v hv
      obtain ⟨G1, hr1⟩ := hr.coB (bs := hp) (nm := ids) (l := hp)
      obtain ⟨G2, hr2⟩ := hr1.coR (bs := hp) (xs := fn.results.toList) (ps := ptsOf p)
      obtain ⟨G', h1, h2⟩ := finV_ok hr2 hid h
      obtain ⟨u, hu, hru⟩ := aret_ok hr2 hq hv
      exact ⟨u, hu, G', h1, h2 _ hru⟩
    · cases h
omit [LC] in
theorem RetOk.mono {fn : Func} {rv : Option AV} {Q Q' : Value → Prop} (h : RetOk P fn rv a w Q) (k : ∀ v, Q v → Q' v) : RetOk P fn rv a w Q' := by
  cases rv with
  | none => obtain ⟨u, h1, h2⟩ := h; exact ⟨u, h1, k _ h2⟩
  | some x => exact fun b e => k _ (h b e)
theorem fin_ok (hr : Rel w₀ G₀ hp₀ G s a w) {ids : NM} (hid : ∀ n bx, look hp₀ n = some bx → lookN ids n = some n) {fn : Func} {rv : Option AV} : ∀ {α : Type} {enc : RS α} {x : α}, enc.fin P fn ids rv s = some x →
    RetOk P fn rv a w fun u => ∃ G', Fin w₀ G₀ hp₀ G' (enc.res x).2 w ∧ Rep (enc.res x).1 G' u
  | _, .one p hp to fro ok, x, h => by
    simp only [RS.fin] at h
    cases hq : finQ P fn ids rv p hp s <;> rw [hq] at h <;> simp only [cond_true, cond_false, reduceCtorEq] at h
    split at h
    · rename_i y hy
      have h := Option.some.inj h; subst h
      have := finOne_ok (P := P) hr hid hq hy
      simp only [RS.res, ok]
      exact this
    · cases h
  | _, .two l r, x, h => by
    simp only [RS.fin] at h
    split at h
    · rename_i y hy
      have h := Option.some.inj h; subst h
      have := fin_ok (enc := l) hr hid hy
      exact this
    · split at h
      · rename_i y hy
        have h := Option.some.inj h; subst h
        have := fin_ok (enc := r) hr hid hy
        exact this
      · cases h
theorem closeDf_ok : ∀ {ns : List Nat} {s s' : St} {G : Gh} {a : Act} {w : World}, s.df = ns → closeDf ns s = some s' → Rel w₀ G₀ hp₀ G s a w → ∀ (fr : Frame) (cs : List Frame), fr.mode = .returning → fr.defers = a.defers →
    ∃ w', Rel w₀ G₀ hp₀ G s' { a with defers := [] } w' ∧ Steps P (lone fr cs w) (lone { fr with defers := [] } cs w')
  | [], s, s', G, a, w, hd, h, hr, fr, cs, hm, hfd => by
    simp only [closeDf, Option.some.injEq] at h; subst h
    obtain ⟨bs, h1, h2⟩ := hr.defers
    rw [hd] at h2
    have : bs = [] := by cases bs with
      | nil => rfl
      | cons _ _ => simp at h2
    subst this
    refine ⟨w, ⟨⟨[], rfl, rfl⟩, hr.size, hr.frame, hr.fresh, hr.fin⟩, ?_⟩
    have e : ({ fr with defers := [] } : Frame) = fr := by rw [← show fr.defers = [] by rw [hfd, h1]; rfl]
    rw [e]
    exact .refl _ _
  | n :: ns, s, s', G, a, w, hd, h, hr, fr, cs, hm, hfd => by
    simp only [closeDf] at h
    split at h
    · rename_i hl
      obtain ⟨bs, h1, h2⟩ := hr.defers
      rw [hd] at h2
      cases bs with
      | nil => simp at h2
      | cons b bs =>
        simp only [List.map_cons, List.cons.injEq] at h2
        obtain ⟨B, k1, k2, k3⟩ := hr.fin.mem.holds n _ hl
        rw [k1] at h2; obtain ⟨e, h2⟩ := h2; injection e with e; subst e
        have hr1 := hr.setBox (bx' := .dead) (o := .deferred none) hl (show G.at n .dfr = some b from k1) (fun c hc => by cases hc) trivial k3
        have hr2 : Rel w₀ G₀ hp₀ G { s with hp := (n, .dead) :: s.hp, df := ns } { a with defers := bs.map (fun b => { target := .collected b, args := #[] }) } (w.putObj b (.deferred none)) :=
          ⟨⟨bs, rfl, h2⟩, hr1.size, hr1.frame, hr1.fresh, hr1.fin⟩
        have hs := step_collected (P := P) (cs := cs) (fr := fr) (by rw [hm]; simp) (by rw [hfd, h1]; rfl) rfl (run_takeDeferred k2)
        obtain ⟨w', i1, i2⟩ := closeDf_ok (a := { a with defers := bs.map (fun b => { target := .collected b, args := #[] }) }) rfl h hr2 { fr with defers := [] ++ bs.map (fun b => { target := .collected b, args := #[] }) } cs hm rfl
        exact ⟨w', i1, (Steps.one hs).trans i2⟩
    · cases h
end
end Go.Sym
/- Loops over functions: the statement. -/
namespace Go.Sym
open Go.RowKit
variable [LC]

structure Cx.Ok (cx : Cx) (body : Code) : Prop where
  ents : ∀ e ∈ cx.tb.ents, e.Sound cx.P
  mixed : cx.P.follows .mixedOrders = true
  func : cx.P.funcs[cx.f]? = some cx.fn
  tags : ∀ p t, lookT p cx.tags = some t → ∀ g ps x y, sub body p = .rangeFunc g ps x y → LC.lc t = some (x, y)
def RdOk (cx : Cx) (G₀ : Gh) (hp₀ : List (Nat × Box)) (b : Frame) : Prop := match cx.rd with
  | none => b.roundOf = none
  | some m => ∃ B bx, G₀.box m = some B ∧ look hp₀ m = some bx ∧ b.roundOf = some B

section
variable {w₀ : World} {G₀ : Gh} {hp₀ : List (Nat × Box)} {G : Gh} {s : St} {a : Act} {w : World}
omit [LC] in
theorem run_enterLoop_inner {P : Program} (fn : FuncId) (tmps : Array Value) (ps : Array Tmp) (asn bo : Code) {l : Nat} {r : Loop} (h : w.heap[l]? = some (.loop r)) :
    (Instr.enterLoop fn tmps ps asn bo (some l)).run P w = .ok (w.heap.size, []) (w.alloc (.loop { state := .ready, pending := none, fn, tmps, params := ps, assign := asn, body := bo, defers := r.defers })) := by
  unfold Instr.enterLoop
  simp only [Sem.run_bind, run_getLoop h, run_newObj_alloc, Result.andThen, Sem.run_pure]
theorem loop_ok (hr : Rel w₀ G₀ hp₀ G s a w) {k D DB : Nat} {f : FuncId} {ps : Array Tmp} {tag : Nat} {asn bo : Code} (htag : LC.lc tag = some (asn, bo)) (hk : look s.hp k = none) (hkx : s.nx ≤ k) (hD : G.box D = some DB) (hne : D ≠ k) :
    Rel w₀ G₀ hp₀ (G.addBox k w.heap.size) { s with hp := (k, .loop .ready none f s.n s.fr ps.toList tag D) :: s.hp } a (w.alloc (.loop { state := .ready, pending := none, fn := f, tmps := a.tmps, params := ps, assign := asn, body := bo, defers := DB })) := by
  have hle : G.le (G.addBox k w.heap.size) := Gh.addBox_le (hr.fresh k hkx hk).1
  refine hr.newBox hk hkx (fun b hb => ?_) ⟨w.heap.size, a.tmps, DB, Gh.addBox_self, by rw [Gh.addBox_ne hne]; exact hD, ⟨asn, bo, htag, ?_⟩, hr.size, fun i x hx => ?_, fun o => ?_⟩
  · have hb : (G.addBox k w.heap.size).box k = some b := hb
    rw [Gh.addBox_self] at hb; injection hb with hb; exact hb.symm
  · rw [heap_alloc_top]; simp
  · obtain ⟨v, h1, h2⟩ := hr.frame i x hx; exact ⟨v, h1, h2.le hle⟩
  · cases hq : (G.addBox k w.heap.size).imm w.heap.size o with
    | none => rfl
    | some v =>
      have := World.block_lt_of_cell? _ _ (hr.fin.mem.agree _ _ _ hq)
      simp at this
theorem Rel.nx (hr : Rel w₀ G₀ hp₀ G s a w) {k : Nat} (h : s.nx ≤ k) : Rel w₀ G₀ hp₀ G { s with nx := k } a w := ⟨hr.defers, hr.size, hr.frame, fun m hm hl => hr.fresh m (Nat.le_trans h hm) hl, hr.fin⟩
/-- the loop is entered -/
theorem enterRF_ok (hr : Rel w₀ G₀ hp₀ G s a w) {cx : Cx} {ps : Array Tmp} {tag : Nat} {asn bo : Code} (htag : LC.lc tag = some (asn, bo)) {s1 : St} (h : s.enterRF cx.f ps.toList tag cx.rd = some s1) {b : Frame} (hb : b.fn = cx.f) (hrd : RdOk cx G₀ hp₀ b) :
    ∃ G1 l mark w1, (Instr.enterLoop b.fn a.tmps ps asn bo b.roundOf).run cx.P w = .ok (l, mark) w1 ∧ G1.box s.nx = some l ∧ G.le G1 ∧ Rel w₀ G₀ hp₀ G1 s1 { a with defers := mark ++ a.defers } w1 ∧ s1.nx = s.nx + 16 := by
  unfold St.enterRF at h
  cases hn : noRange s.nx s.hp <;> rw [hn] at h <;> simp only [cond_true, cond_false, reduceCtorEq] at h
  have hk0 := noRange_look hn s.nx (Nat.le_refl _) (by omega)
  have hk1 := noRange_look hn (s.nx + 1) (by omega) (by omega)
  unfold RdOk at hrd
  split at h
  · rename_i hc
    rw [hc] at hrd
    simp only at hrd
    simp only [Option.some.injEq] at h; subst h
    have hr1 := hr.newBox (k := s.nx + 1) (bx := .dfr) (o := .deferred (some [])) hk1 (by omega) (fun b hb => by
      have hb : (G.addBox (s.nx + 1) w.heap.size).box (s.nx + 1) = some b := hb
      rw [Gh.addBox_self] at hb; injection hb with hb; exact hb.symm)
      ⟨w.heap.size, Gh.addBox_self, heap_alloc_top _ _, fun o => by
        cases hq : (G.addBox (s.nx + 1) w.heap.size).imm w.heap.size o with
        | none => rfl
        | some v =>
          have := World.block_lt_of_cell? _ _ (hr.fin.mem.agree _ _ _ hq)
          simp at this⟩
    have hk0' : look ((s.nx + 1, Box.dfr) :: s.hp) s.nx = none := by
      simp only [look]
      have : Nat.beq (s.nx + 1) s.nx = false := by
        cases hq : Nat.beq (s.nx + 1) s.nx
        · rfl
        · have := Nat.eq_of_beq_eq_true hq; omega
      rw [this]; exact hk0
    have hr2 := loop_ok hr1 (k := s.nx) (D := s.nx + 1) (f := cx.f) (ps := ps) htag hk0' (Nat.le_refl _) Gh.addBox_self (by omega)
    have hle1 : G.le (G.addBox (s.nx + 1) w.heap.size) := Gh.addBox_le (hr.fresh (s.nx + 1) (by omega) hk1).1
    have hle2 : (G.addBox (s.nx + 1) w.heap.size).le ((G.addBox (s.nx + 1) w.heap.size).addBox s.nx (w.alloc (.deferred (some []))).heap.size) := Gh.addBox_le (hr1.fresh s.nx (Nat.le_refl _) hk0').1
    refine ⟨_, w.heap.size + 1, [{ target := .collected w.heap.size, args := #[] }], _, by rw [hrd, hb]; exact run_enterLoop_outer _ _ _ _ _, ?_, hle1.trans hle2, ?_, rfl⟩
    · rw [Gh.addBox_self, World.size_alloc]
    · have hr3 := hr2.nx (k := s.nx + 16) (by show s.nx ≤ _; omega)
      refine ⟨?_, hr3.size, hr3.frame, hr3.fresh, hr3.fin⟩
      obtain ⟨bs, h1, h2⟩ := hr3.defers
      refine ⟨w.heap.size :: bs, by rw [h1]; rfl, ?_⟩
      simp only [List.map_cons, List.cons.injEq]
      refine ⟨?_, h2⟩
      rw [Gh.addBox_ne (by omega), Gh.addBox_self]
  · rename_i m hc
    rw [hc] at hrd
    simp only at hrd
    obtain ⟨B, bx0, e1, e2, e3⟩ := hrd
    split at h
    · rename_i D hm
      simp only [Option.some.injEq] at h; subst h
      obtain ⟨B', tmps, DB, k1, k2, ⟨asn', bo', _, k3⟩, _⟩ := hr.fin.mem.holds _ _ hm
      have := hr.fin.keep m bx0 B e2 e1
      rw [this] at k1; injection k1 with k1; subst k1
      have hne : D ≠ s.nx := fun e => by subst e; rw [(hr.fresh _ (Nat.le_refl _) hk0).1] at k2; cases k2
      have hr2 := loop_ok hr (k := s.nx) (D := D) (f := cx.f) (ps := ps) htag hk0 (Nat.le_refl _) k2 hne
      have hle2 : G.le (G.addBox s.nx w.heap.size) := Gh.addBox_le (hr.fresh s.nx (Nat.le_refl _) hk0).1
      refine ⟨_, w.heap.size, [], _, by rw [e3, hb]; exact run_enterLoop_inner _ _ _ _ _ k3, Gh.addBox_self, hle2, ?_, rfl⟩
      exact hr2.nx (k := s.nx + 16) (by show s.nx ≤ _; omega)
    · cases h
end
end Go.Sym
