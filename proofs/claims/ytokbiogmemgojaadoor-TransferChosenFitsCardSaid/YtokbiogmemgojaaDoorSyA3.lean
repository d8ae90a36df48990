/- What the claim rests on, part 3: gathered texts. -/
import Derived.RangeFuncRecord
import Derived.Lib.BytesEntry
import Derived.Laws.Externs
import Derived.Test.YtokbiogmemgojaaDoorSyA2
/- Operations that make or change memory: what they ask for. -/
namespace Go.Sym
open Go.RowKit
variable [LC]

/-- a slice or a string as data of a known type -/
def lstOf (s : St) (τ : Ty) : AV → Option (List τ.den)
  | .sl τ' l => match Ty.eq? τ' τ with
    | some ⟨h⟩ => some (h ▸ l)
    | none => none
  | .str b => match Ty.eq? .byte τ with
    | some ⟨h⟩ => some (h ▸ (b : List Ty.byte.den))
    | none => none
  | .own k => match look s.hp k with
    | some (.row τ' l _) => match Ty.eq? τ' τ with
      | some ⟨h⟩ => some (h ▸ l)
      | none => none
    | _ => none
  | .asl b _ _ => match look s.hp b with
    | some (.cells cs _) => decL τ cs
    | _ => none
  | .val (.slice none 0 0) => some []
  | _ => none
omit [LC] in
theorem lstOf_src {s : St} {τ : Ty} {v : AV} {l : List τ.den} (h : lstOf s τ v = some l) {flat : List AV} {n : Nat} (hs : srcOf s v = some (flat, n)) : flat = l.flatMap τ.enc ∧ n = l.length := by
  unfold lstOf at h
  split at h
  · split at h
    · rename_i hh _
      subst hh
      have h := Option.some.inj h
      subst h
      simp only [srcOf, Option.some.injEq, Prod.mk.injEq] at hs; obtain ⟨rfl, rfl⟩ := hs
      exact ⟨rfl, rfl⟩
    · cases h
  · split at h
    · rename_i hh _
      subst hh
      have h := Option.some.inj h
      subst h
      simp only [srcOf, Option.some.injEq, Prod.mk.injEq] at hs; obtain ⟨rfl, rfl⟩ := hs
      exact ⟨(flat_encB _).symm, rfl⟩
    · cases h
  · split at h
    · rename_i hl
      split at h
      · rename_i hh _
        subst hh
        have h := Option.some.inj h
        subst h
        simp only [srcOf, hl, Option.some.injEq, Prod.mk.injEq] at hs; obtain ⟨rfl, rfl⟩ := hs
        exact ⟨rfl, rfl⟩
      · cases h
    · cases h
  · rename_i b m c
    split at h
    · rename_i cs T hl
      simp only [srcOf, hl] at hs
      cases hq : Nat.beq m c && Nat.beq cs.length m && allData (cs.map AV.sym) <;> rw [hq] at hs <;> simp only [cond_true, cond_false, reduceCtorEq, Option.some.injEq, Prod.mk.injEq] at hs
      obtain ⟨rfl, rfl⟩ := hs
      simp only [Bool.and_eq_true, Nat.beq_eq] at hq
      have e1 := decL_eq h
      have e2 : cs.length = l.length := by have := congrArg List.length e1; simpa using this
      refine ⟨?_, by omega⟩
      rw [e1]
      have hd : ∀ x ∈ l.map τ.av, isData x = true := by
        intro x hx
        rw [← e1] at hx
        have : ∀ {xs : List AV}, allData xs = true → ∀ x ∈ xs, isData x = true := by
          intro xs
          induction xs with
          | nil => intro _ x hx; cases hx
          | cons y ys ih =>
            intro hy x hx
            simp only [allData, Bool.and_eq_true] at hy
            rcases List.mem_cons.1 hx with q | q
            · rw [q]; exact hy.1
            · exact ih hy.2 x q
        exact this hq.2 x hx
      clear e1 e2 hq h
      induction l with
      | nil => rfl
      | cons y l ih =>
        rw [List.map_cons, List.flatMap_cons, ih (fun x hx => hd x (by rw [List.map_cons]; exact List.mem_cons_of_mem _ hx))]
        have hy := hd (τ.av y) (by rw [List.map_cons]; exact List.mem_cons_self)
        have : τ.enc y = [τ.av y] := by cases τ <;> first | rfl | (simp [Ty.av, isData] at hy)
        rw [this]; rfl
    · cases h
  · have h := Option.some.inj h; subst h
    simp only [srcOf, Option.some.injEq, Prod.mk.injEq] at hs; obtain ⟨rfl, rfl⟩ := hs
    exact ⟨rfl, rfl⟩
  · cases h
def decMany (τ : Ty) : Nat → List AV → Option (List τ.den)
  | 0, [] => some []
  | n + 1, cs => match τ.dec cs with
    | some (d, r) => match decMany τ n r with
      | some ds => some (d :: ds)
      | none => none
    | none => none
  | _, _ => none
omit [LC] in
theorem decMany_seen {τ : Ty} : ∀ {n : Nat} {cs : List AV} {l : List τ.den}, decMany τ n cs = some l → SeenD cs (l.flatMap τ.enc) ∧ l.length = n
  | 0, [], l, h => by have h := Option.some.inj h; subst h; exact ⟨⟨fun _ => rfl, [], rfl, trivial⟩, rfl⟩
  | 0, _ :: _, l, h => by cases h
  | n + 1, cs, l, h => by
    simp only [decMany] at h
    split at h
    · rename_i d r hd
      split at h
      · rename_i ds hds
        have h := Option.some.inj h; subst h
        obtain ⟨pre, rfl, hs⟩ := dec_seen hd
        obtain ⟨h1, h2⟩ := decMany_seen hds
        exact ⟨hs.append h1, by simp [h2]⟩
      · cases h
    · cases h
/-- what is known: calls; the types of elements -/
structure Tb : Type 1 where
  ents : List Ent
  ety : List (Nat × Ty)
  /-- parts of own slices are seen as such -/
  sub : Bool
def nilN : NM → Bool
  | [] => true
  | _ => false
def nilB : List (Nat × BPt) → Bool
  | [] => true
  | _ => false
def keyIs (f : FuncId) : Key → Bool
  | .fn f' => Nat.beq f' f
  | _ => false
def callQ (s : St) (f : FuncId) (xs : List AV) (e : Ent) : Option Rq :=
  bif keyIs f e.key && nilB e.hp && (!(hasOwn xs) || e.out.rows) then
    match Pts.get e.args (lends s.hp xs) [] with
    | some (d, nm) => match bget s.hp e.hp nm with
      | some (d', nm') => bif nilN nm' then some (.bnd (e.F d d') (e.out.sp fun r hp' => .res (hasOwn xs) (Pts.put e.args d) r hp')) else none
      | none => none
    | none => none
  else none
/-- the names in the order of the entry -/
def order (nm : NM) : List (Nat × BPt) → NM
  | [] => []
  | (n, _) :: r => match lookN nm n with
    | some m => (n, m) :: order nm r
    | none => order nm r
def memQ (s : St) (ys : List AV) (nm0 : NM) (e : Ent) : Option Rq :=
  match Pts.get e.args ys nm0 with
  | some (d, nm) => match bget s.hp e.hp nm with
    | some (d', nm') => bif distinctOld (order nm' e.hp) && allIn nm' e.hp then
        some (.bnd (e.F d d') (e.out.sp fun r hp' => .mem (order nm' e.hp) (Pts.put e.args d) (bput e.hp d') r hp')) else none
    | none => none
  | none => none
def callMQ (s : St) (f : FuncId) (ys : List AV) (e : Ent) : Option Rq := bif keyIs f e.key then memQ s ys [] e else none
def yldQ (s : St) (m : Nat) (ys : List AV) (e : Ent) : Option Rq := match e.key with
  | .yld m' => memQ s ys [(m', m)] e
  | _ => none
def firstQ (g : Ent → Option Rq) : List Ent → Option Rq
  | [] => none
  | e :: es => match g e with
    | some q => some q
    | none => firstQ g es
def appQ (P : Program) (tb : Tb) (s : St) (t : TypeId) (x y : AV) : Option Rq :=
  match x with
  | .own k => match look s.hp k with
    | some (.row τ l E) => match lstOf s τ y with
      | some m => some (.ifb (decide ((l ++ m).length ≤ rowMax)) (.row (.row τ (l ++ m) E)))
      | none => none
    | _ => none
  | _ => match P.underlying t with
    | some (.slice E) => match look tb.ety E with
      | some τ => match lstOf s τ y with
        | some m => some (.ifb (decide (m.length ≤ rowMax)) (.row (.row τ m E)))
        | none => none
      | none => none
    | _ => none
def sliceQ (P : Program) (tb : Tb) (s : St) (t : TypeId) (len : Nat) (parts : List (Nat × Operand)) : Option Rq :=
  match P.underlying t with
  | some (.slice E) => match look tb.ety E, tSize P E, aparts s parts with
    | none, _, _ => some (.tot (.b true))
    | some τ, some sz, some ps => match afill (fun i => some (i * sz, sz)) (undefs (len * sz)) ps with
      | some cs => match decMany τ len cs with
        | some l => some (.tot (.row (.row τ l E)))
        | none => none
      | none => none
    | _, _, _ => none
  | _ => none
/-- a store into an element of an own slice -/
def storeQ (s : St) (k i off : Nat) (v : AV) : Option Rq := match look s.hp k with
  | some (.row τ l E) => bif Nat.ble (off + v.cells.length) τ.sz then
      some (.bnd l[i]? (.one fun x => match τ.dec (splice (τ.enc x) off v.cells) with
        | some (y, []) => .put (((τ.enc y).drop off).take v.cells.length) (.row τ (l.set i y) E)
        | _ => .none))
    else none
  | _ => none
def areqN (P : Program) (tb : Tb) (s : St) (op : Op) : Option Rq :=
  match op with
  | .alloc _ => some (.tot .none)
  | .box _ _ => some (.tot .none)
  | .buildSlice t len parts => sliceQ P tb s t len parts.toList
  | .convert _ _ x => match s.ev x with
    | some (.str b) => some (.ifb (decide (b.length ≤ maxLen)) .none)
    | _ => none
  | .store _ x y => match s.ev x with
    | some (.ptr _ _) => some (.tot .none)
    | some (.oel k _ i off) => match s.ev y with
      | some v => storeQ s k i off v
      | none => none
    | _ => none
  | .call { callee := .builtin .append, args, argTypes } => match args.toList, argTypes.toList with
    | [x, y], [t, _] => match s.ev x, s.ev y with
      | some a, some b => appQ P tb s t a b
      | _, _ => none
    | _, _ => none
  | .call { callee := .value g, args, argTypes := _ } => match s.ev g, s.evs args.toList with
    | some (.fn (.func f) [] cap), some xs => match firstQ (callQ s f (xs ++ cap)) tb.ents with
      | some q => some q
      | none => firstQ (callMQ s f (xs ++ cap)) tb.ents
    | some (.yld m), some ys => firstQ (yldQ s m ys) tb.ents
    | _, _ => none
  | _ => none
/-- the operation leaves memory as it is -/
def isVal (P : Program) : Op → Bool
  | .alloc _ => false
  | .box _ _ => false
  | .buildSlice _ _ _ => false
  | .store _ _ _ => false
  | .convert _ dst _ => match P.underlying dst with
    | some (.slice _) => false
    | _ => true
  | .call { callee := .builtin .append, args := _, argTypes := _ } => false
  | .call { callee := .value _, args := _, argTypes := _ } => false
  | _ => true
def areq (P : Program) (tb : Tb) (s : St) (op : Op) : Option Rq := bif isVal P op then areqV P s op else areqN P tb s op
end Go.Sym
/- Operations that make or change memory: what they ask for is enough. -/
namespace Go.Sym
open Go.RowKit
variable [LC]

omit [LC] in
theorem lends_eq {hp : List (Nat × Box)} : ∀ {xs : List AV}, hasOwn xs = false → lends hp xs = xs
  | [], _ => rfl
  | x :: xs, h => by
    simp only [hasOwn, Bool.or_eq_false_iff] at h
    simp only [lends, lends_eq h.2]
    cases x <;> first | rfl | cases h.1
omit [LC] in
theorem nilN_eq {nm : NM} (h : nilN nm = true) : nm = [] := by cases nm with
  | nil => rfl
  | cons _ _ => cases h
omit [LC] in
theorem bput_nil : ∀ {l : List (Nat × BPt)} {d : bden l}, nilB l = true → bput l d = []
  | [], _, _ => rfl
  | _ :: _, _, h => by cases h
omit [LC] in
theorem keyIs_eq {f : FuncId} {k : Key} (h : keyIs f k = true) : k = .fn f := by
  cases k with
  | fn f' => rw [Nat.eq_of_beq_eq_true (show Nat.beq f' f = true from h)]
  | yld _ => cases h
  | ext _ => cases h
omit [LC] in
theorem firstQ_mem {g : Ent → Option Rq} : ∀ {es : List Ent} {q : Rq}, firstQ g es = some q → ∃ e ∈ es, g e = some q
  | [], _, h => by cases h
  | e :: es, q, h => by
    simp only [firstQ] at h
    split at h
    · rename_i q' hq
      have h := Option.some.inj h; subst h
      exact ⟨e, List.mem_cons_self, hq⟩
    · obtain ⟨e', h1, h2⟩ := firstQ_mem h
      exact ⟨e', List.mem_cons_of_mem _ h1, h2⟩
/-- a call that sees data -/
theorem callQ_ok {P : Program} {s : St} {f : FuncId} {xs : List AV} {e : Ent} {q : Rq} {d : D} (he : e.Sound P) (h : callQ s f xs e = some q) (ho : q.Out d) :
    ∃ b ys r hp' ps, d = .res b ys r hp' ∧ vws b s.hp xs ys = some ps ∧ Alls ps ∧ Plain P f ∧ CallsTo P f ys [] r hp' ∧ (b = true → Alls (noRefHp hp')) := by
  unfold callQ at h
  cases hk : keyIs f e.key && nilB e.hp && (!(hasOwn xs) || e.out.rows) <;> rw [hk] at h <;> simp only [cond_true, cond_false, reduceCtorEq] at h
  simp only [Bool.and_eq_true] at hk
  obtain ⟨⟨hk1, hk2⟩, hk3⟩ := hk
  split at h
  · rename_i x nm hg
    split at h
    · rename_i x' nm' hg'
      cases hn : nilN nm' <;> rw [hn] at h <;> simp only [cond_true, cond_false, reduceCtorEq, Option.some.injEq] at h
      subst h
      have hn := nilN_eq hn; subst hn
      obtain ⟨y, hy, hd⟩ := ho
      have hd := RS.sp_out hd
      have hs := he x x' y hy
      rw [keyIs_eq hk1] at hs
      simp only at hs
      rw [bput_nil hk2] at hs
      have hseen := (Pts.get_seen hg).2 [] rfl (fun n m hh => by have := (bget_seen hg').1 n m hh; cases this)
      have key : ∃ ps, vws (hasOwn xs) s.hp xs (Pts.put e.args x) = some ps ∧ Alls ps := by
        cases hb : hasOwn xs
        · rw [lends_eq hb] at hseen
          obtain ⟨ps, h1, h2⟩ := hseen
          exact vws_bare noIfs_put h1 h2
        · exact vws_lend noIfs_put hseen
      obtain ⟨ps, k1, k2⟩ := key
      refine ⟨hasOwn xs, Pts.put e.args x, _, _, ps, hd, k1, k2, hs.1, hs.2, fun hb => ?_⟩
      rw [hb] at hk3
      exact RS.rows_ok (by simpa using hk3)
    · cases h
  · cases h
omit [LC] in
theorem order_look {nm : NM} : ∀ {l : List (Nat × BPt)} {n m : Nat}, lookN nm n = some m → (∃ e ∈ l, e.1 = n) → lookN (order nm l) n = some m
  | [], n, m, _, ⟨e, he, _⟩ => by cases he
  | (k, p) :: r, n, m, h, ⟨e, he, hn⟩ => by
    simp only [order]
    cases hq : Nat.beq k n
    · have hr : ∃ e ∈ r, e.1 = n := by
        rcases List.mem_cons.1 he with rfl | he
        · simp only at hn; subst hn; simp at hq
        · exact ⟨e, he, hn⟩
      split
      · simp only [lookN, hq, cond_false]; exact order_look h hr
      · exact order_look h hr
    · have := Nat.eq_of_beq_eq_true hq; subst this
      rw [h]; simp [lookN]
omit [LC] in
theorem bget_view {hp : List (Nat × Box)} {N M : NM} (hN : distinctOld N = true) : ∀ {l : List (Nat × BPt)} {nm nm' : NM} {d : bden l}, bget hp l nm = some (d, nm') → SubN nm' M → SubN nm' N → ∀ {hpv : List (Nat × Box)} {ps : List Prop},
    viewHp (rho N) hp (order M l) = some hpv → vwHp hpv (bput l d) = some ps → Alls ps
  | [], nm, nm', d, h, _, _, hpv, ps, hv, hw => by
    simp only [order, viewHp, Option.some.injEq] at hv; subst hv
    have := Option.some.inj (show some [] = some ps from hw); subst this; trivial
  | (j, p) :: r, nm, nm', d, h, hM, hS, hpv, ps, hv, hw => by
    have h : (match lookN nm j with
      | some old => match look hp old with
        | some b => match p.get b nm with
          | some (d, nm') => match bget hp r nm' with
            | some (ds, nm'') => some ((d, ds), nm'')
            | none => none
          | none => none
        | none => none
      | none => none) = some (d, nm') := h
    split at h
    · rename_i old ho
      split at h
      · rename_i b hb
        split at h
        · rename_i d1 nm1 h1
          split at h
          · rename_i d2 nm2 h2
            simp only [Option.some.injEq] at h; obtain ⟨rfl, rfl⟩ := h
            obtain ⟨a1, a2⟩ := BPt.get_seen h1
            obtain ⟨b1, _⟩ := bget_seen h2
            have hj : lookN M j = some old := hM _ _ (b1 _ _ (a1 _ _ ho))
            simp only [order, hj, viewHp, hb] at hv
            split at hv
            · rename_i b' l' e1 e2
              simp only [Option.some.injEq] at e1 hv; subst e1 hv
              have hw : (bif Nat.beq j j then (match vwB (renB (rho N) b) (p.put d1), vwHp l' (bput r d2) with
                | some ps, some qs => some (ps ++ qs)
                | _, _ => none) else none) = some ps := hw
              rw [show Nat.beq j j = true by simp] at hw
              simp only [cond_true] at hw
              split at hw
              · rename_i p1 p2 w1 w2
                have := Option.some.inj hw; subst this
                obtain ⟨p1', s1, s2⟩ := a2 N hN (b1.trans hS)
                rw [w1] at s1; have := Option.some.inj s1; subst this
                exact Alls_append.2 ⟨s2, bget_view hN h2 hM hS e2 w2⟩
              · cases hw
            · cases hv
          · cases h
        · cases h
      · cases h
    · cases h
omit [LC] in
/-- a call that sees own memory -/
theorem memQ_ok {s : St} {ys : List AV} {nm0 : NM} {e : Ent} {q : Rq} {d : D} (h : memQ s ys nm0 e = some q) (ho : q.Out d) :
    ∃ N x x' y, e.F x x' = some y ∧ d = .mem N (Pts.put e.args x) (bput e.hp x') (e.out.res y).1 (e.out.res y).2 ∧ distinctOld N = true ∧ SubN nm0 N ∧
      (∀ ps, vws false [] (AV.rens (rho N) ys) (Pts.put e.args x) = some ps → Alls ps) ∧ ∀ hpv ps, viewHp (rho N) s.hp N = some hpv → vwHp hpv (bput e.hp x') = some ps → Alls ps := by
  unfold memQ at h
  split at h
  · rename_i x nm hg
    split at h
    · rename_i x' nm' hg'
      cases hk : distinctOld (order nm' e.hp) && allIn nm' e.hp <;> rw [hk] at h <;> simp only [cond_true, cond_false, reduceCtorEq, Option.some.injEq] at h
      subst h
      simp only [Bool.and_eq_true] at hk
      obtain ⟨y, hy, hd⟩ := ho
      have hsub : SubN nm' (order nm' e.hp) := fun n m hh => order_look hh (allIn_spec hk.2 n m hh)
      obtain ⟨g1, g2⟩ := Pts.get_seen hg
      obtain ⟨g1', _⟩ := bget_seen hg'
      refine ⟨order nm' e.hp, x, x', y, hy, RS.sp_out hd, hk.1, g1.trans (g1'.trans hsub), fun ps hv => ?_, fun hpv ps hv hw => bget_view hk.1 hg' (SubN.refl _) hsub hv hw⟩
      obtain ⟨ps', h1, h2⟩ := g2 _ hk.1 (g1'.trans hsub)
      rw [hv] at h1; have := Option.some.inj h1; subst this; exact h2
    · cases h
  · cases h
omit [LC] in
theorem memCall_ok {s s' : St} {q : Prop} {ys xs : List AV} {names : List (Nat × Nat)} {hp hp' : List (Nat × Box)} {r : AV} {t : Nat} {ps : List Prop} (h : memCall s q ys names xs hp r hp' t = some (ps, s')) (hq : q)
    (h1 : ∀ ps, vws false [] (AV.rens (rho names) ys) xs = some ps → Alls ps) (h2 : ∀ hpv ps, viewHp (rho names) s.hp names = some hpv → vwHp hpv hp = some ps → Alls ps) : Alls ps := by
  unfold memCall at h
  cases hb : distinctOld names && distinctNew names && noRange (s.nx + 16 * t) s.hp && Nat.blt t s.n <;> rw [hb] at h <;> simp only [cond_true, cond_false, reduceCtorEq] at h
  split at h
  · rename_i hpv ps1 e1 e2
    split at h
    · rename_i ps2 e3
      simp only [Option.some.injEq, Prod.mk.injEq] at h; obtain ⟨rfl, _⟩ := h
      exact ⟨hq, Alls_append.2 ⟨h1 _ e2, h2 _ _ e1 e3⟩⟩
    · cases h
  · cases h
omit [LC] in
theorem isVal_none {P : Program} {s : St} {d : D} {op : Op} (h : isVal P op = false) : aval P s d op = none := by
  unfold isVal at h
  split at h <;> first
    | rfl
    | cases h
    | (split at h
       · rename_i src dst x _ E hE
         simp only [aval, hE]
         have hc : ∀ v, aConv P dst v = none := fun v => by
           unfold aConv
           rw [hE]
         have hc' : ∀ v, aConvC P dst v = none := fun v => by
           unfold aConvC
           split
           · rw [hc]
           · rw [hc]
         cases P.underlying src <;> cases s.ev x <;> simp [hc']
       · cases h)
end Go.Sym
/- What an operation asks for is enough. -/
namespace Go.Sym
open Go.RowKit
variable [LC]

theorem isVal_new {P : Program} {s : St} {d : D} {o : Oper} (h : isVal P o.op = true) : anew P s d o = none := by
  obtain ⟨dst, op, ty, pos, after, guard⟩ := o
  simp only at h
  cases hA : anew P s d ⟨dst, op, ty, pos, after, guard⟩ with
  | none => rfl
  | some R =>
    exfalso
    unfold anew at hA
    split at hA
    · rename_i e _; simp only at e; subst e; cases h
    · rename_i e _; simp only at e; subst e; cases h
    · rename_i e _; simp only at e; subst e; cases h
    · rename_i e _; simp only at e; subst e; cases h
    · rename_i e _; simp only at e; subst e; cases h
    · rename_i e _; simp only at e; subst e
      split at hA
      · rename_i e2 _; simp only [isVal, e2] at h; cases h
      · cases hA
    · cases hA
theorem isVal_mod {P : Program} {s : St} {d : D} {o : Oper} (h : isVal P o.op = true) : amod P s d o = none := by
  obtain ⟨dst, op, ty, pos, after, guard⟩ := o
  simp only at h
  cases hA : amod P s d ⟨dst, op, ty, pos, after, guard⟩ with
  | none => rfl
  | some R =>
    exfalso
    unfold amod at hA
    split at hA
    · rename_i e; simp only at e; subst e; cases h
    · rename_i e; simp only at e; subst e; cases h
    · rename_i e; simp only at e; subst e; cases h
    · cases hA
omit [LC] in
theorem appQ_nil {P : Program} {tb : Tb} {s : St} {t t2 : TypeId} {y : AV} {q : Rq} {d : D} {ps : List Prop} {b : Box} (h : appQ P tb s t (.val (.slice none 0 0)) y = some q) (ho : q.Out d) (ha : aAppend P s d t t2 [] 0 y = some (ps, b)) : Alls ps := by
  unfold appQ at h
  simp only at h
  unfold aAppend at ha
  split at h
  · rename_i E hE
    split at h
    · rename_i τ hτ
      split at h
      · rename_i m hm
        have h := Option.some.inj h; subst h
        obtain ⟨h1, rfl⟩ := ho
        simp only [hE] at ha
        split at ha
        · rename_i sz flat n e1 e2
          obtain ⟨k1, k2⟩ := lstOf_src hm e2
          cases hq : Nat.beq τ.sz sz && Nat.beq E E && zeroFine P E && notInt P t2 <;> rw [hq] at ha <;> simp only [cond_true, cond_false, reduceCtorEq, Option.some.injEq, Prod.mk.injEq] at ha
          obtain ⟨rfl, _⟩ := ha
          exact ⟨by rw [k1]; rfl, by omega, of_decide_eq_true h1, trivial⟩
        · cases ha
      · cases h
    · cases h
  · cases h
omit [LC] in
theorem appQ_own {P : Program} {tb : Tb} {s : St} {t t2 : TypeId} {k : Nat} {τ0 : Ty} {l0 : List τ0.den} {E0 : TypeId} {y : AV} {q : Rq} {d : D} {ps : List Prop} {b : Box} (hk : look s.hp k = some (.row τ0 l0 E0)) (h : appQ P tb s t (.own k) y = some q) (ho : q.Out d) (ha : aAppend P s d t t2 (l0.flatMap τ0.enc) l0.length y = some (ps, b)) : Alls ps := by
  unfold appQ at h
  simp only [hk] at h
  unfold aAppend at ha
  split at h
  · rename_i m hm
    have h := Option.some.inj h; subst h
    obtain ⟨h1, rfl⟩ := ho
    split at ha
    · rename_i E _ _ _ e0 ed
      simp only [D.row.injEq, Box.row.injEq] at ed
      obtain ⟨rfl, ed, rfl⟩ := ed
      have ed := eq_of_heq ed; subst ed
      split at ha
      · rename_i sz flat n e1 e2
        obtain ⟨k1, k2⟩ := lstOf_src hm e2
        cases hq : Nat.beq τ0.sz sz && Nat.beq E E0 && zeroFine P E && notInt P t2 <;> rw [hq] at ha <;> simp only [cond_true, cond_false, reduceCtorEq, Option.some.injEq, Prod.mk.injEq] at ha
        obtain ⟨rfl, _⟩ := ha
        exact ⟨by rw [k1, List.flatMap_append], by rw [k2, List.length_append], of_decide_eq_true h1, trivial⟩
      · cases ha
    · cases ha
  · cases h
theorem areqN_new {P : Program} {tb : Tb} {s : St} {o : Oper} {q : Rq} {d : D} {ps : List Prop} {v : AV} {new : List (Nat × Box)} (hT : ∀ e ∈ tb.ents, e.Sound P) (hv : isVal P o.op = false) (h : areqN P tb s o.op = some q) (ho : q.Out d) (ha : anew P s d o = some (ps, v, new)) : Alls ps := by
  obtain ⟨dst, op, ty, pos, after, guard⟩ := o
  simp only at h hv
  have cnd : ∀ {b : Bool} {x : AV} {y : List (Nat × Box)} {ps0 ps : List Prop} {v : AV} {new : List (Nat × Box)}, (bif b then some (ps0, x, y) else none) = some (ps, v, new) → Alls ps0 → Alls ps := fun {b} _ _ _ _ _ _ e k => by
    cases b
    · cases e
    · simp only [cond_true, Option.some.injEq, Prod.mk.injEq] at e; obtain ⟨rfl, _⟩ := e; exact k
  unfold anew at ha
  split at ha
  · split at ha
    · exact cnd ha trivial
    · cases ha
  · split at ha
    · exact cnd ha trivial
    · cases ha
  · rename_i g args ats t e _
    simp only at e; subst e
    split at ha
    · rename_i f cap xs b xs' r hp' e1 e2
      split at ha
      · rename_i ps1 hps
        refine cnd ha ?_
        simp only [areqN, e1, e2] at h
        have key : ∀ e ∈ tb.ents, callQ s f (xs ++ cap) e = some q → Alls (Plain P f :: CallsTo P f xs' [] r hp' :: (ps1 ++ (bif b then noRefHp hp' else []))) := fun e he hc => by
          obtain ⟨b1, ys, r1, hp1, ps2, k1, k2, k3, k4, k5, k6⟩ := callQ_ok (hT e he) hc ho
          simp only [D.res.injEq] at k1
          obtain ⟨rfl, rfl, rfl, rfl⟩ := k1
          rw [hps] at k2; have := Option.some.inj k2; subst this
          refine ⟨k4, k5, Alls_append.2 ⟨k3, ?_⟩⟩
          cases b
          · trivial
          · exact k6 rfl
        split at h
        · rename_i q' hq
          have h := Option.some.inj h; subst h
          obtain ⟨e, he, hc⟩ := firstQ_mem hq
          exact key e he hc
        · exfalso
          obtain ⟨e, he, hc⟩ := firstQ_mem h
          unfold callMQ at hc
          cases hk : keyIs f e.key <;> rw [hk] at hc <;> simp only [cond_true, cond_false, reduceCtorEq] at hc
          obtain ⟨N, x, x', y, _, k2, _⟩ := memQ_ok hc ho
          cases k2
      · cases ha
    · cases ha
  · rename_i args ats tt e _
    simp only at e; subst e
    split at ha
    · rename_i x y t t2 e1 e2
      split at ha
      · rename_i v' e3 e4
        split at ha
        · rename_i ps1 b e5
          refine cnd ha ?_
          simp only [areqN, e1, e2, e3, e4] at h
          exact appQ_nil h ho e5
        · cases ha
      · cases ha
    · cases ha
  · rename_i t len parts tt e _
    simp only at e; subst e
    split at ha
    · rename_i ps1 b e1
      refine cnd ha ?_
      simp only [areqN] at h
      unfold sliceQ at h
      unfold aBuildSlice at e1
      split at h
      · rename_i E hE
        split at h
        · have h := Option.some.inj h; subst h
          have ho : d = _ := ho
          subst ho
          simp [hE] at e1
        · rename_i τ sz ps2 i1 i2 i3
          split at h
          · rename_i cs hcs
            split at h
            · rename_i l hl
              have h := Option.some.inj h; subst h
              have ho : d = _ := ho
              subst ho
              simp only [hE, i2, i3, hcs] at e1
              cases hq : Nat.beq τ.sz sz && Nat.beq E E && zeroFine P E && Nat.ble (len * τ.sz) 16777216 && AV.ones cs <;> rw [hq] at e1 <;> simp only [cond_true, cond_false, reduceCtorEq] at e1
              obtain ⟨⟨j1, ps3, j2, j3⟩, j4⟩ := decMany_seen hl
              rw [j2] at e1
              simp only [Option.some.injEq, Prod.mk.injEq] at e1
              obtain ⟨rfl, _⟩ := e1
              exact Alls_append.2 ⟨j3, j4, j1 _, trivial⟩
            · cases h
          · cases h
        · cases h
      · cases h
    · split at ha
      · exact cnd ha trivial
      · cases ha
  · rename_i src dst x tt e _
    simp only at e; subst e
    split at ha
    · rename_i E b e1 e2 e3
      split at ha
      · refine cnd ha ?_
        simp only [areqN, e3, Option.some.injEq] at h; subst h
        exact ⟨of_decide_eq_true ho.1, trivial⟩
      · cases ha
    · cases ha
  · cases ha
omit [LC] in
theorem splice_right : ∀ (ys a b : List AV) (k : Nat), splice (a ++ b) (a.length + k) ys = a ++ splice b k ys
  | [], _, _, _ => rfl
  | y :: ys, a, b, k => by
    simp only [splice]
    rw [List.set_append_right _ _ (by omega), Nat.add_sub_cancel_left, Nat.add_assoc]
    exact splice_right ys a (b.set k y) (k + 1)
omit [LC] in
theorem splice_left : ∀ (ys a b : List AV) (k : Nat), k + ys.length ≤ a.length → splice (a ++ b) k ys = splice a k ys ++ b
  | [], _, _, _, _ => rfl
  | y :: ys, a, b, k, h => by
    simp only [List.length_cons] at h
    simp only [splice]
    rw [List.set_append_left _ _ (by omega)]
    exact splice_left ys (a.set k y) b (k + 1) (by rw [List.length_set]; omega)
omit [LC] in
theorem splice_get : ∀ (ys a : List AV) (k j : Nat), k + ys.length ≤ a.length → (splice a k ys)[j]? = if k ≤ j ∧ j < k + ys.length then ys[j - k]? else a[j]?
  | [], a, k, j, _ => by simp only [splice, List.length_nil]; rw [if_neg (by omega)]
  | y :: ys, a, k, j, h => by
    simp only [List.length_cons] at h
    simp only [splice]
    rw [splice_get ys (a.set k y) (k + 1) j (by rw [List.length_set]; omega)]
    simp only [List.length_cons]
    by_cases h1 : k + 1 ≤ j ∧ j < k + 1 + ys.length
    · rw [if_pos h1, if_pos (by omega), show j - k = (j - (k + 1)) + 1 by omega]; simp
    · rw [if_neg h1]
      by_cases h2 : j = k
      · subst h2; rw [if_pos (by omega)]; simp [show j < a.length by omega]
      · rw [if_neg (by omega), List.getElem?_set_ne (by omega)]
omit [LC] in
theorem splice_row {τ : Ty} {y : τ.den} {ys : List AV} {off : Nat} : ∀ {l : List τ.den} {i : Nat} {x : τ.den}, l[i]? = some x → off + ys.length ≤ τ.sz → τ.enc y = splice (τ.enc x) off ys → (l.set i y).flatMap τ.enc = splice (l.flatMap τ.enc) (i * τ.sz + off) ys
  | [], _, _, h, _, _ => by simp at h
  | z :: l, 0, x, h, ho, he => by
    simp only [List.getElem?_cons_zero, Option.some.injEq] at h; subst h
    simp only [List.set_cons_zero, List.flatMap_cons, Nat.zero_mul, Nat.zero_add]
    rw [splice_left _ _ _ _ (by rw [τ.enc_length]; exact ho), he]
  | z :: l, i + 1, x, h, ho, he => by
    simp only [List.getElem?_cons_succ] at h
    simp only [List.set_cons_succ, List.flatMap_cons]
    rw [show (i + 1) * τ.sz + off = (τ.enc z).length + (i * τ.sz + off) by rw [τ.enc_length, Nat.succ_mul]; omega, splice_right, splice_row h ho he]
omit [LC] in
theorem vws_get {b : Bool} {hp : List (Nat × Box)} : ∀ {xs ys : List AV} {ps : List Prop}, vws b hp xs ys = some ps → Alls ps → ∀ (j : Nat) (x y : AV), xs[j]? = some x → ys[j]? = some y → ∃ qs, vw b hp x y = some qs ∧ Alls qs
  | x :: xs, y :: ys, ps, h, hp, j, u, v, hu, hv => by
    simp only [vws] at h
    split at h
    · rename_i p1 h1
      split at h
      · rename_i p2 h2
        have := Option.some.inj h; subst this
        cases j with
        | zero => simp only [List.getElem?_cons_zero, Option.some.injEq] at hu hv; subst hu hv; exact ⟨p1, h1, (Alls_append.1 hp).1⟩
        | succ j => exact vws_get h2 (Alls_append.1 hp).2 j u v (by simpa using hu) (by simpa using hv)
      · cases h
    · cases h
  | [], [], _, _, _, j, _, _, hu, _ => by simp at hu
  | [], _ :: _, _, h, _, _, _, _, _, _ => by simp [vws] at h
  | _ :: _, [], _, h, _, _, _, _, _, _ => by simp [vws] at h
omit [LC] in
theorem vws_alls {b : Bool} {hp : List (Nat × Box)} : ∀ {xs ys : List AV} {ps : List Prop}, vws b hp xs ys = some ps → (∀ (j : Nat) (x y : AV), xs[j]? = some x → ys[j]? = some y → ∃ qs, vw b hp x y = some qs ∧ Alls qs) → Alls ps
  | x :: xs, y :: ys, ps, h, hq => by
    simp only [vws] at h
    split at h
    · rename_i p1 h1
      split at h
      · rename_i p2 h2
        have := Option.some.inj h; subst this
        obtain ⟨q1, e1, a1⟩ := hq 0 x y rfl rfl
        rw [h1] at e1; have := Option.some.inj e1; subst this
        exact Alls_append.2 ⟨a1, vws_alls h2 fun j u v hu hv => hq (j + 1) u v (by simpa using hu) (by simpa using hv)⟩
      · cases h
    · cases h
  | [], [], _, h, _ => by simp only [vws, Option.some.injEq] at h; subst h; trivial
  | [], _ :: _, _, h, _ => by simp [vws] at h
  | _ :: _, [], _, h, _ => by simp [vws] at h
omit [LC] in
theorem enc_data : ∀ {τ : Ty} {d : τ.den}, ∀ x ∈ τ.enc d, isData x = true
  | .int _, _, x, h => by simp only [Ty.enc, List.mem_singleton] at h; subst h; rfl
  | .byte, _, x, h => by simp only [Ty.enc, List.mem_singleton] at h; subst h; rfl
  | .bool, _, x, h => by simp only [Ty.enc, List.mem_singleton] at h; subst h; rfl
  | .str, _, x, h => by simp only [Ty.enc, List.mem_singleton] at h; subst h; rfl
  | .unit, _, x, h => by simp [Ty.enc] at h
  | .prod a b, d, x, h => by
    rcases List.mem_append.1 h with h | h
    · exact enc_data x h
    · exact enc_data x h
  | .list _, _, x, h => by simp only [Ty.enc, List.mem_singleton] at h; subst h; rfl
  | .tree a, d, x, h => by
    rcases List.mem_append.1 h with h | h
    · exact enc_data x h
    · simp only [List.mem_singleton] at h; subst h; rfl
omit [LC] in
theorem vw_data {x y : AV} (hx : isData x = true) (hy : isData y = true) {qs : List Prop} (h : vw false [] x y = some qs) (hq : Alls qs) : y = x := by
  cases x <;> first | cases hx | skip
  all_goals (cases y <;> first | cases hy | skip)
  all_goals (have := Option.some.inj h; subst this; exact hq.1)
omit [LC] in
theorem rens_get {ρ : Nat → Option Nat} : ∀ {xs : List AV} {j : Nat}, (AV.rens ρ xs)[j]? = (xs[j]?).map (AV.ren ρ)
  | [], j => by simp [AV.rens]
  | x :: xs, 0 => by simp [AV.rens]
  | x :: xs, j + 1 => by simp only [AV.rens, List.getElem?_cons_succ]; exact rens_get
omit [LC] in
theorem storeQ_ok {τ : Ty} {l : List τ.den} {i off : Nat} {x y : τ.den} {c : List AV} {ps : List Prop} (ho : off + c.length ≤ τ.sz) (hx : l[i]? = some x) (hd : τ.dec (splice (τ.enc x) off c) = some (y, []))
    (hv : vws false [] c (((τ.enc y).drop off).take c.length) = some ps) :
    Alls (ps ++ [i * τ.sz + off + c.length ≤ l.length * τ.sz, (l.set i y).flatMap τ.enc = splice (l.flatMap τ.enc) (i * τ.sz + off) (((τ.enc y).drop off).take c.length), (l.set i y).length = l.length, AV.rens (fun _ => none) c = c]) := by
  obtain ⟨pre, e1, hr, qs, hq1, hq2⟩ := dec_seen hd
  simp only [List.append_nil] at e1
  subst e1
  have hle : off + c.length ≤ (τ.enc x).length := by rw [τ.enc_length]; exact ho
  have hlen : (((τ.enc y).drop off).take c.length).length = c.length := by simp [τ.enc_length]; omega
  have hseg : ∀ (j : Nat) (z u : AV), c[j]? = some z → (((τ.enc y).drop off).take c.length)[j]? = some u → ∃ qs, vw false [] z u = some qs ∧ Alls qs := fun j z u h1 h2 => by
    have hj : j < c.length := (List.getElem?_eq_some_iff.1 h1).1
    refine vws_get hq1 hq2 (off + j) z u ?_ ?_
    · rw [splice_get _ _ _ _ hle, if_pos (by omega), Nat.add_sub_cancel_left]; exact h1
    · rw [List.getElem?_take, if_pos hj, List.getElem?_drop] at h2; exact h2
  have he : τ.enc y = splice (τ.enc x) off (((τ.enc y).drop off).take c.length) := by
    apply List.ext_getElem?
    intro j
    rw [splice_get _ _ _ _ (by rw [hlen]; exact hle), hlen]
    by_cases hj : off ≤ j ∧ j < off + c.length
    · rw [if_pos hj, List.getElem?_take, if_pos (by omega), List.getElem?_drop, show off + (j - off) = j by omega]
    · rw [if_neg hj]
      cases hz : (τ.enc x)[j]? with
      | none =>
        have := List.getElem?_eq_none_iff.1 hz
        rw [τ.enc_length] at this
        exact List.getElem?_eq_none_iff.2 (by rw [τ.enc_length]; exact this)
      | some z =>
        have hjl : j < τ.sz := by have := (List.getElem?_eq_some_iff.1 hz).1; rwa [τ.enc_length] at this
        have hu : ∃ u, (τ.enc y)[j]? = some u := ⟨_, List.getElem?_eq_getElem (by rw [τ.enc_length]; exact hjl)⟩
        obtain ⟨u, hu⟩ := hu
        obtain ⟨q, q1, q2⟩ := vws_get hq1 hq2 j z u (by rw [splice_get _ _ _ _ hle, if_neg hj]; exact hz) hu
        rw [hu, vw_data (enc_data z (List.mem_of_getElem? hz)) (enc_data u (List.mem_of_getElem? hu)) q1 q2]
  refine Alls_append.2 ⟨vws_alls hv hseg, ?_, splice_row hx (by rw [hlen]; exact ho) he, by simp, ?_, trivial⟩
  · have hi : i < l.length := (List.getElem?_eq_some_iff.1 hx).1
    have : (i + 1) * τ.sz ≤ l.length * τ.sz := Nat.mul_le_mul_right _ hi
    rw [Nat.succ_mul] at this
    omega
  · apply List.ext_getElem?
    intro j
    have h := congrArg (fun l => l[off + j]?) (hr (fun _ => none))
    simp only [rens_get] at h ⊢
    by_cases hj : j < c.length
    · rw [splice_get _ _ _ _ hle, if_pos (by omega), Nat.add_sub_cancel_left] at h; exact h
    · rw [List.getElem?_eq_none_iff.2 (by omega)]; rfl
theorem areqN_mod {P : Program} {tb : Tb} {s : St} {o : Oper} {q : Rq} {d : D} {ps : List Prop} {s' : St} (hT : ∀ e ∈ tb.ents, e.Sound P) (h : areqN P tb s o.op = some q) (ho : q.Out d) (ha : amod P s d o = some (ps, s')) : Alls ps := by
  obtain ⟨dst, op, ty, pos, after, guard⟩ := o
  simp only at h
  have cnd : ∀ {b : Bool} {x : St} {ps : List Prop} {s' : St}, (bif b then some (([] : List Prop), x) else none) = some (ps, s') → Alls ps := fun {b} _ _ _ e => by
    cases b
    · cases e
    · simp only [cond_true, Option.some.injEq, Prod.mk.injEq] at e; obtain ⟨rfl, _⟩ := e; trivial
  unfold amod at ha
  split at ha
  · rename_i t x y e
    simp only at e; subst e
    split at ha
    · split at ha
      · exact cnd ha
      · cases ha
    · rename_i k sz i off v n e1 e2 e3 _
      split at ha
      · rename_i τ0 l0 E0 ys τ l E e4
        simp only [areqN, e1, e2, storeQ, e4] at h
        cases hbb : Nat.ble (off + v.cells.length) τ0.sz <;> rw [hbb] at h <;> simp only [cond_true, cond_false, reduceCtorEq, Option.some.injEq] at h
        subst h
        obtain ⟨x0, hx0, hd⟩ := ho
        simp only [Sp.Out] at hd
        split at hd
        · rename_i y0 hdec
          simp only [D.put.injEq, Box.row.injEq] at hd
          obtain ⟨rfl, rfl, hl, rfl⟩ := hd
          have hl := eq_of_heq hl
          subst hl
          cases hb : Nat.beq v.cells.length n && AV.ones v.cells && Nat.beq sz τ.sz && Nat.beq τ.sz τ.sz && Nat.beq E E <;> rw [hb] at ha <;> simp only [cond_true, cond_false, reduceCtorEq] at ha
          simp only [Bool.and_eq_true] at hb
          obtain ⟨⟨⟨⟨b1, _⟩, b3⟩, _⟩, _⟩ := hb
          have b1 := Nat.eq_of_beq_eq_true b1
          have b3 := Nat.eq_of_beq_eq_true b3
          subst b1 b3
          split at ha
          · rename_i ps1 hvs
            simp only [Option.some.injEq, Prod.mk.injEq] at ha
            obtain ⟨rfl, _⟩ := ha
            exact storeQ_ok (Nat.le_of_ble_eq_true hbb) hx0 hdec hvs
          · cases ha
        · cases hd
      · cases ha
    · cases ha
  · rename_i args ats e
    simp only at e; subst e
    split at ha
    · rename_i x y t t2 tt e1 e2 _
      split at ha
      · rename_i k v e3 e4
        split at ha
        · rename_i τ0 l0 E0 e5
          split at ha
          · rename_i ps1 τ l E e6
            simp only [areqN, e1, e2, e3, e4] at h
            cases hb : noRange (s.nx + 16 * tt) s.hp && Nat.beq τ.sz τ0.sz && Nat.beq E E0 && Nat.blt tt s.n <;> rw [hb] at ha <;> simp only [cond_true, cond_false, reduceCtorEq, Option.some.injEq, Prod.mk.injEq] at ha
            obtain ⟨rfl, _⟩ := ha
            exact appQ_own e5 h ho e6
          · cases ha
        · cases ha
      · cases ha
    · cases ha
  · rename_i g args ats e
    simp only at e; subst e
    split at ha
    · rename_i f cap ys names xs hp r hp' t e1 e2 e3
      simp only [areqN, e1, e2] at h
      split at h
      · rename_i q' hq
        have h := Option.some.inj h; subst h
        obtain ⟨e, he, hc⟩ := firstQ_mem hq
        obtain ⟨b1, ys1, r1, hp1, ps2, k1, _⟩ := callQ_ok (hT e he) hc ho
        cases k1
      · obtain ⟨e, he, hc⟩ := firstQ_mem h
        unfold callMQ at hc
        cases hk : keyIs f e.key <;> rw [hk] at hc <;> simp only [cond_true, cond_false, reduceCtorEq] at hc
        obtain ⟨N, x, x', y, k1, k2, k3, k4, k5, k6⟩ := memQ_ok hc ho
        simp only [D.mem.injEq] at k2
        obtain ⟨rfl, rfl, rfl, rfl, rfl⟩ := k2
        have hs := hT e he x x' y k1
        rw [keyIs_eq hk] at hs
        exact memCall_ok ha hs k5 k6
    · rename_i m ys names xs hp r hp' t e1 e2 e3
      simp only [areqN, e1, e2] at h
      obtain ⟨e, he, hc⟩ := firstQ_mem h
      unfold yldQ at hc
      split at hc
      · rename_i m' hm'
        obtain ⟨N, x, x', y, k1, k2, k3, k4, k5, k6⟩ := memQ_ok hc ho
        simp only [D.mem.injEq] at k2
        obtain ⟨rfl, rfl, rfl, rfl, rfl⟩ := k2
        have hs := hT e he x x' y k1
        rw [hm'] at hs
        have hr : rho names m = some m' := rho_of k3 (k4 _ _ (by simp [lookN]))
        simp only [hr] at ha
        exact memCall_ok ha hs k5 k6
      · cases hc
    · cases ha
  · cases ha
theorem areq_ok {P : Program} {tb : Tb} {s : St} {o : Oper} {q : Rq} {d : D} {ps : List Prop} {s' : St} (hT : ∀ e ∈ tb.ents, e.Sound P) (h : areq P tb s o.op = some q) (ho : q.Out d) (ha : aex P s d o = some (ps, s')) : Alls ps := by
  unfold areq at h
  unfold aex at ha
  cases hv : isVal P o.op <;> rw [hv] at h <;> simp only [cond_true, cond_false] at h
  · split at ha
    · rename_i ps' v new e
      unfold aadd at e
      rw [isVal_none hv] at e
      split at ha
      · simp only [Option.some.injEq, Prod.mk.injEq] at ha; obtain ⟨rfl, _⟩ := ha
        exact areqN_new hT hv h ho e
      · cases ha
    · exact areqN_mod hT h ho ha
  · split at ha
    · rename_i ps' v new e
      unfold aadd at e
      split at e
      · rename_i ps1 v1 e1
        simp only [Option.some.injEq, Prod.mk.injEq] at e; obtain ⟨rfl, rfl, rfl⟩ := e
        split at ha
        · simp only [Option.some.injEq, Prod.mk.injEq] at ha; obtain ⟨rfl, _⟩ := ha
          exact areqV_ok h ho e1
        · cases ha
      · rw [isVal_new hv] at e; cases e
    · rw [isVal_mod hv] at ha; cases ha
theorem areq_add {P : Program} {tb : Tb} {s : St} {o : Oper} {q : Rq} {d : D} {ps : List Prop} {v : AV} {new : List (Nat × Box)} (hT : ∀ e ∈ tb.ents, e.Sound P) (h : areq P tb s o.op = some q) (ho : q.Out d) (ha : aadd P s d o = some (ps, v, new)) : Alls ps := by
  unfold areq at h
  unfold aadd at ha
  cases hv : isVal P o.op <;> rw [hv] at h <;> simp only [cond_true, cond_false] at h
  · rw [isVal_none hv] at ha
    exact areqN_new hT hv h ho ha
  · split at ha
    · rename_i ps1 v1 e1
      simp only [Option.some.injEq, Prod.mk.injEq] at ha; obtain ⟨rfl, rfl, rfl⟩ := ha
      exact areqV_ok h ho e1
    · rw [isVal_new hv] at ha; cases ha
end Go.Sym
/- Parts of own slices; clear. -/
namespace Go.Sym
open Go.RowKit
variable [LC]

/-- operations on parts of own slices: what is tested, the state behind it -/
def subOp (P : Program) (tb : Tb) (s : St) (o : Oper) : Option (Bool × St) :=
  bif tb.sub then
    match o.op with
    | .slice t x lo hi mx => match s.ev x, o.dst, mx with
      | some (.own k), some tt, none => match look s.hp k, P.underlying t with
        | some (.row τ l E), some (.slice E') => match tSize P E' with
          | some sz' => bif Nat.beq τ.sz sz' && Nat.blt tt s.n && noRange (s.nx + 16 * tt) s.hp then
              (match evInt s lo, evInt s hi with
              | some (some a), some none => some (decide (0 ≤ a ∧ a.toNat < l.length), { s with fr := (tt, .osl k τ.sz a.toNat) :: s.fr })
              | some none, some (some b) => some (decide (0 ≤ b ∧ b ≤ l.length), { s with fr := (tt, .own (s.nx + 16 * tt)) :: s.fr, hp := (s.nx + 16 * tt, .row τ (l.take b.toNat) E) :: (k, .dead) :: s.hp })
              | _, _ => none)
            else none
          | none => none
        | _, _ => none
      | _, _, _ => none
    | .call { callee := .builtin .clear, args, argTypes } => match args.toList, argTypes.toList, o.dst with
      | [x], [t], none => match s.ev x with
        | some (.osl k sz lo) => match look s.hp k, P.underlying t with
          | some (.row τ l E), some (.slice E') => match tZero P E' with
            | some zs => match τ.dec zs with
              | some (z, []) => bif Nat.beq sz τ.sz && Nat.beq τ.sz 1 && AV.ones zs then some (true, { s with hp := (k, .row τ (l.take lo ++ List.replicate (l.length - lo) z) E) :: s.hp }) else none
              | _ => none
            | none => none
          | _, _ => none
        | _ => none
      | _, _, _ => none
    | _ => none
  else none
section
variable {P : Program} {w₀ : World} {G₀ : Gh} {hp₀ : List (Nat × Box)} {G : Gh} {s : St} {a : Act} {w : World} {tb : Tb}
omit [LC] in
theorem splice_all : ∀ (ys b : List AV), ys.length = b.length → splice b 0 ys = ys := fun ys b h => by
  apply List.ext_getElem?
  intro j
  rw [splice_get _ _ _ _ (by omega)]
  by_cases hj : 0 ≤ j ∧ j < 0 + ys.length
  · rw [if_pos hj]; rfl
  · rw [if_neg hj, List.getElem?_eq_none_iff.2 (by omega), List.getElem?_eq_none_iff.2 (by omega)]
omit [LC] in
theorem flat_replicate {τ : Ty} {z : τ.den} : ∀ (n : Nat), (List.replicate n z).flatMap τ.enc = (List.replicate n (τ.enc z)).flatten
  | 0 => rfl
  | n + 1 => by simp [List.replicate_succ, flat_replicate n]
omit [LC] in
theorem reps_replicate {x : AV} {v : Value} (h : Rep x G v) : ∀ (n : Nat), Reps (List.replicate n [x]).flatten G (List.replicate n v)
  | 0 => trivial
  | n + 1 => by simp only [List.replicate_succ, List.flatten_cons, List.singleton_append]; exact ⟨h, reps_replicate h n⟩
theorem subOp_ok (hr : Rel w₀ G₀ hp₀ G s a w) {o : Oper} {s' : St} (h : subOp P tb s o = some (true, s')) {N : Act → World → Prop} (hN : ∀ G' a' w', Rel w₀ G₀ hp₀ G' s' a' w' → N a' w') : oDoes P o a w N := by
  obtain ⟨dst, op, ty, pos, after, guard⟩ := o
  unfold subOp at h
  cases hsub : tb.sub <;> rw [hsub] at h <;> simp only [cond_true, cond_false, reduceCtorEq] at h
  split at h
  · rename_i t x lo hi mx
    split at h
    · rename_i k tt hx
      split at h
      · rename_i τ l E E' hl hu
        split at h
        · rename_i sz' hsz
          cases hb : Nat.beq τ.sz sz' && Nat.blt tt s.n && noRange (s.nx + 16 * tt) s.hp <;> rw [hb] at h <;> simp only [cond_true, cond_false, reduceCtorEq] at h
          simp only [Bool.and_eq_true, Nat.blt_eq] at hb
          obtain ⟨⟨b1, b2⟩, b3⟩ := hb
          have b1 := Nat.eq_of_beq_eq_true b1
          subst b1
          obtain ⟨ad, c, us, h1, h3, h4, h5⟩ := (hr.fin.mem.holds _ _ hl).rowAt
          obtain ⟨ad0, n0, c0, ho0, hxe⟩ := ev_ok hr hx
          rw [h1] at ho0; simp only [Option.some.injEq, Prod.mk.injEq] at ho0
          obtain ⟨rfl, rfl, rfl⟩ := ho0
          have hc : l.length ≤ c := by
            rcases h3.2 with ⟨_, q, _⟩ | ⟨_, _, _, _, _, _, q, _⟩ <;> omega
          split at h
          · rename_i i0 hlo hhi
            simp only [Option.some.injEq, Prod.mk.injEq, decide_eq_true_eq] at h
            obtain ⟨⟨g0, g1⟩, rfl⟩ := h
            rcases evInt_ok hr hlo with ⟨_, e⟩ | ⟨xo, kx, mm, rfl, e, hxv⟩
            · cases e
            injection e with e; subst e
            rcases evInt_ok hr hhi with ⟨rfl, _⟩ | ⟨_, _, _, _, e, _⟩
            rotate_left
            · cases e
            have r1 : (Instr.sliceBounds true l.length c ((some xo).map a.eval) (Option.map a.eval none) none).run P w = .ok (i0.toNat, l.length, c) w := by
              simp [Instr.sliceBounds, hxv, run_sliceBound' (P := P) (w := w) g0 (show i0 ≤ (l.length : Int) by omega)]
            have hne : l ≠ [] := fun e => by subst e; simp at g1
            rcases h3.2 with ⟨_, q, _⟩ | ⟨g, vs, fz, rfl, k2, k3, k4, k5, k6, k7, k8⟩
            · exact absurd (List.eq_nil_of_length_eq_zero q) hne
            · have hrun : (execOp a.eval ⟨some tt, .slice t x (some xo) none none, ty, pos, after, guard⟩).run P w = .ok (.value (.slice (some ⟨g, i0.toNat * τ.sz, none⟩) (l.length - i0.toNat) (c - i0.toNat))) w := by
                simp only [Option.map_some, Option.map_none] at r1
                simp [execOp, Instr.sliceAt, Instr.slice, run_underlying' hu, hxe, r1, run_sizeOf' hsz, show c ≠ i0.toNat by omega, add_plain]
              refine oDoes_of_wp (by simp) ?_
              unfold Oper.wp
              rw [hrun]
              exact hN _ _ _ (aval_rel (v := .osl k τ.sz i0.toNat) hr (by have hb2 : Nat.blt tt s.n = true := (by simpa using b2); simp only [St.add, hb2, cond_true, List.nil_append]) ⟨g, l.length, c, h1, g1, rfl⟩)
          · rename_i i0 hlo hhi
            simp only [Option.some.injEq, Prod.mk.injEq, decide_eq_true_eq] at h
            obtain ⟨⟨g0, g1⟩, rfl⟩ := h
            rcases evInt_ok hr hhi with ⟨_, e⟩ | ⟨xo, kx, mm, rfl, e, hxv⟩
            · cases e
            injection e with e; subst e
            rcases evInt_ok hr hlo with ⟨rfl, _⟩ | ⟨_, _, _, _, e, _⟩
            rotate_left
            · cases e
            have r1 : (Instr.sliceBounds true l.length c (Option.map a.eval none) ((some xo).map a.eval) none).run P w = .ok (0, i0.toNat, c) w := by
              simp [Instr.sliceBounds, hxv, run_sliceBound' (P := P) (w := w) g0 (show i0 ≤ (c : Int) by omega)]
            have hlt : (l.take i0.toNat).length = i0.toNat := by simp; omega
            have hrun : (execOp a.eval ⟨some tt, .slice t x none (some xo) none, ty, pos, after, guard⟩).run P w = .ok (.value (.slice ad i0.toNat c)) w := by
              simp only [Option.map_some, Option.map_none] at r1
              have had : (if c = 0 then ad else ad.map (·.add (0 * τ.sz))) = ad := by
                split
                · rfl
                · rcases h3.2 with ⟨rfl, _, _⟩ | ⟨g, vs, fz, rfl, _⟩
                  · rfl
                  · simp [add_plain]
              simp only [execOp, Instr.sliceAt, Option.map_some, Option.map_none]
              simp [Instr.slice, run_underlying' hu, hxe, r1, run_sizeOf' hsz]
              simpa using had
            refine oDoes_of_wp (by simp) ?_
            unfold Oper.wp
            rw [hrun]
            have hk' := noRange_look b3 (s.nx + 16 * tt) (Nat.le_refl _) (by omega)
            obtain ⟨f1, f2⟩ := hr.fresh _ (by omega) hk'
            have hrow : RowAt w E τ.sz ad (l.take i0.toNat).length c (us.take (i0.toNat * τ.sz)) := by
              rw [hlt]
              have hm : i0.toNat * τ.sz ≤ l.length * τ.sz := Nat.mul_le_mul_right _ (by omega)
              refine ⟨by rw [List.length_take, h3.1]; omega, ?_⟩
              rcases h3.2 with ⟨q1, q2, q3⟩ | ⟨g, vs, fz, q1, q2, q3, q4, q5, q6, q7, q8⟩
              · exact .inl ⟨q1, by omega, q3⟩
              · exact .inr ⟨g, vs, fz, q1, q2, q3, by omega, q5, q6, by rw [← q7, List.take_take, Nat.min_eq_left hm], q8⟩
            have hreps : Reps ((l.take i0.toNat).flatMap τ.enc) G.data (us.take (i0.toNat * τ.sz)) := by
              have := reps_take (i0.toNat * τ.sz) h4
              have e : (l.flatMap τ.enc).take (i0.toNat * τ.sz) = (l.take i0.toNat).flatMap τ.enc := by
                have e1 : l.flatMap τ.enc = (l.take i0.toNat).flatMap τ.enc ++ (l.drop i0.toNat).flatMap τ.enc := by rw [← List.flatMap_append, List.take_append_drop]
                rw [e1, List.take_append_of_le_length (by rw [flat_len, hlt]; exact Nat.le_refl _), List.take_of_length_le (by rw [flat_len, hlt]; exact Nat.le_refl _)]
              rwa [e] at this
            have hfin := hr.fin.take hl h1 hk' f2 h5 (w' := w) ⟨rfl, rfl, rfl, Nat.le_refl _, fun _ _ _ => rfl⟩ (.inl rfl) hrow hreps
            have hle : G.le (G.addOwn (s.nx + 16 * tt) (ad, (l.take i0.toNat).length, c)) := Gh.addOwn_le f2
            refine hN _ _ _ ⟨by obtain ⟨bs, q1, q2⟩ := hr.defers; exact ⟨bs, q1, defers_le hle.box q2⟩, by simp [Act.put, hr.size], fun i z hz => ?_, fun m hm hlm => ?_, hfin⟩
            · simp only [look] at hz
              cases hbq : Nat.beq tt i
              · rw [hbq] at hz; simp only [cond_false] at hz
                have hne : tt ≠ i := fun e => by subst e; simp at hbq
                obtain ⟨u, u1, u2⟩ := hr.frame i z hz
                exact ⟨u, by simp [Act.put, hne, u1], u2.le hle⟩
              · rw [hbq] at hz; simp only [cond_true, Option.some.injEq] at hz; subst hz
                have := Nat.eq_of_beq_eq_true hbq; subst this
                exact ⟨_, by simp [Act.put, hr.size, b2], ad, i0.toNat, c, by rw [Gh.addOwn_self, hlt], rfl⟩
            · simp only [look] at hlm
              cases hbq : Nat.beq (s.nx + 16 * tt) m
              · rw [hbq] at hlm; simp only [cond_false] at hlm
                cases hbk : Nat.beq k m
                · rw [hbk] at hlm
                  obtain ⟨g1, g2⟩ := hr.fresh m hm hlm
                  refine ⟨g1, ?_⟩
                  show (bif Nat.beq m (s.nx + 16 * tt) then some _ else G.own m) = none
                  cases hbm : Nat.beq m (s.nx + 16 * tt)
                  · exact g2
                  · have := Nat.eq_of_beq_eq_true hbm; subst this; simp at hbq
                · rw [hbk] at hlm; cases hlm
              · rw [hbq] at hlm; cases hlm
          · cases h
        · cases h
      · cases h
    · cases h
  · rename_i args ats
    split at h
    · rename_i x t ha hty
      split at h
      · rename_i k sz lo hx
        split at h
        · rename_i τ l E E' hl hu
          split at h
          · rename_i zs hzs
            split at h
            · rename_i z hdec
              cases hb : Nat.beq sz τ.sz && Nat.beq τ.sz 1 && AV.ones zs <;> rw [hb] at h <;> simp only [cond_true, cond_false, reduceCtorEq, Option.some.injEq, Prod.mk.injEq, true_and] at h
              subst h
              simp only [Bool.and_eq_true] at hb
              obtain ⟨⟨b1, b2⟩, b3⟩ := hb
              have b1 := Nat.eq_of_beq_eq_true b1
              have b2 := Nat.eq_of_beq_eq_true b2
              subst b1
              have e1 : args = #[x] := by rw [← Array.toArray_toList (xs := args), ha]
              have e2 : ats = #[t] := by rw [← Array.toArray_toList (xs := ats), hty]
              subst e1 e2
              obtain ⟨g, n, c, o1, o2, hxe⟩ := ev_ok hr hx
              obtain ⟨ad, c', q1, q2⟩ := hr.fin.mem.holds _ _ hl
              rw [o1] at q1; simp only [Option.some.injEq, Prod.mk.injEq] at q1
              obtain ⟨rfl, rfl, rfl⟩ := q1
              rcases q2 with ⟨q, _⟩ | ⟨g', vs, fz, q, k2, k3, k4, k5, k6, k7, k8, k9⟩
              · cases q
              · simp only [Option.some.injEq, Addr.mk.injEq, and_true] at q
                subst q
                obtain ⟨pre, e, hsd⟩ := dec_seen hdec
                simp only [List.append_nil] at e; subst e
                obtain ⟨zv, hz1, hz2⟩ := run_zero' (P := P) hzs w G.data
                obtain ⟨ps, hv1, hv2⟩ := hsd.2
                have hz3 : Reps (τ.enc z) G.data zv.cells.toList := vws_ok (Gh.le.refl _) (fun e => by cases e) hv1 hv2 hz2
                have hlen1 : (τ.enc z).length = 1 := by rw [τ.enc_length]; exact b2
                obtain ⟨x1, hx1⟩ : ∃ x1, τ.enc z = [x1] := by
                  match τ.enc z, hlen1 with
                  | [x1], _ => exact ⟨x1, rfl⟩
                rw [hx1] at hz3
                obtain ⟨v1, hv1'⟩ : ∃ v1, zv.cells = #[v1] := by
                  have := hz3.length
                  match hq : zv.cells.toList, this with
                  | [v1], _ => exact ⟨v1, by rw [← Array.toArray_toList (xs := zv.cells), hq]⟩
                have hone : v1.oneCell' = true := reps_ones hz2 b3 v1 (by rw [hv1']; simp)
                have hzc : (Builtin.zeroCells zv.cells (l.length - lo)).toList = List.replicate (l.length - lo) v1 := by
                  rw [hv1']
                  simp [Builtin.zeroCells]
                  apply List.ext_getElem
                  · simp
                  · intro i _ _
                    simp [Nat.mod_one]
                rw [b2] at k6 k7
                simp only [Nat.mul_one] at k6 k7
                obtain ⟨w', cur', s1, s2, s3, s4⟩ := run_storeCells' (P := P) g lo E fz (List.replicate (l.length - lo) v1) 0 vs w k2 (by simp; omega) k3 (fun v hv => by rw [List.eq_of_mem_replicate hv]; exact hone)
                have hrun : (execOp a.eval ⟨none, .call { callee := .builtin .clear, args := #[x], argTypes := #[t] }, ty, pos, after, guard⟩).run P w = .ok (.value (.tuple #[])) w' := by
                  obtain ⟨m, hm⟩ : ∃ m, l.length - lo = m + 1 := ⟨l.length - lo - 1, by omega⟩
                  rw [hm] at s1 hzc
                  simp [execOp, resolve, invoke, builtin, hxe, b2, hm, Builtin.clear_, run_underlying' hu, hz1, hzc, s1]
                refine oDoes_of_wp (by simp) ?_
                unfold Oper.wp
                rw [hrun]
                have hat : G.at k (.row τ l E) = some g := by simp [Gh.at, o1]
                have hl' : (l.take lo ++ List.replicate (l.length - lo) z).length = l.length := by simp; omega
                have hfl : (l.take lo ++ List.replicate (l.length - lo) z).flatMap τ.enc = splice (l.flatMap τ.enc) lo (List.replicate (l.length - lo) [x1]).flatten := by
                  have e1 : l.flatMap τ.enc = (l.take lo).flatMap τ.enc ++ (l.drop lo).flatMap τ.enc := by rw [← List.flatMap_append, List.take_append_drop]
                  have e2 : ((l.take lo).flatMap τ.enc).length = lo := by rw [flat_len, b2]; simp; omega
                  have e3 : ((l.drop lo).flatMap τ.enc).length = l.length - lo := by rw [flat_len, b2]; simp
                  rw [List.flatMap_append, flat_replicate, hx1, e1]
                  have := splice_right (List.replicate (l.length - lo) [x1]).flatten ((l.take lo).flatMap τ.enc) ((l.drop lo).flatMap τ.enc) 0
                  rw [e2, Nat.add_zero] at this
                  rw [this, splice_all _ _ (by rw [e3]; simp)]
                refine hN G _ _ ⟨hr.defers, hr.size, hr.frame, fun m hm hlm => hr.fresh m hm ?_, hr.fin.update (bx' := .row τ (l.take lo ++ List.replicate (l.length - lo) z) E) hl hat (by simp [Gh.at, o1]) s4 ?_ k9⟩
                · simp only [look] at hlm
                  cases hbq : Nat.beq k m
                  · rw [hbq] at hlm; exact hlm
                  · rw [hbq] at hlm; cases hlm
                · have hsz : cur'.size = vs.size := by
                    have := congrArg List.length s3
                    rw [vsplice_length] at this
                    simpa using this
                  refine ⟨some ⟨g, 0, none⟩, c, by rw [hl']; exact o1, .inr ⟨g, cur', fz, rfl, s2, by rw [hsz]; exact k3, by rw [hl']; exact k4, k5, by rw [hsz, b2, k6]; simp, ?_, ?_, k9⟩⟩
                  · rw [hl', hfl, b2, Nat.mul_one, s3, Nat.add_zero, vsplice_take_comm _ _ _ _ (by simp; omega)]
                    exact reps_vsplice _ k7 (reps_replicate (by rw [hv1'] at hz3; exact hz3.1) _)
                  · intro u hu'
                    rw [s3] at hu'
                    rcases vsplice_mem _ _ _ _ hu' with hu' | hu'
                    · exact k8 u hu'
                    · rw [List.eq_of_mem_replicate hu']; exact hone
            · cases h
          · cases h
        · cases h
      · cases h
    · cases h
  · cases h
end
end Go.Sym
/- A conversion of bytes to bytes: the memory is marked, what it holds stays. -/
namespace Go.Sym
open Go.RowKit
variable [LC]

/-- operations on own memory that keep what it holds: what is tested, the state behind it -/
def fixOp (P : Program) (s : St) (o : Oper) : Option (Bool × St) :=
  match o.op, o.dst with
  | .convert src dst x, some tt => match s.ev x with
    | some (.own k) => match look s.hp k, P.underlying src, P.underlying dst with
      | some (.row τ l E), some (.slice _), some (.slice e) => match P.underlying e with
        | some (.int .u8) => bif Nat.beq src dst && Nat.blt tt s.n then some (decide (0 < l.length), { s with fr := (tt, .own k) :: s.fr, hp := (k, .row τ l E) :: s.hp }) else none
        | _ => none
      | _, _, _ => none
    | _ => none
  | _, _ => none
section
variable {P : Program} {w₀ : World} {G₀ : Gh} {hp₀ : List (Nat × Box)} {G : Gh} {s : St} {a : Act} {w : World}
theorem fixOp_ok (hr : Rel w₀ G₀ hp₀ G s a w) {o : Oper} {s' : St} (h : fixOp P s o = some (true, s')) {N : Act → World → Prop} (hN : ∀ G' a' w', Rel w₀ G₀ hp₀ G' s' a' w' → N a' w') : oDoes P o a w N := by
  obtain ⟨dst, op, ty, pos, after, guard⟩ := o
  unfold fixOp at h
  split at h
  · rename_i src dst x tt e1 e2
    simp only at e1 e2; subst e1 e2
    split at h
    · rename_i k hx
      split at h
      · rename_i τ l E E1 E2 hl hus hud
        split at h
        · rename_i hue
          cases hb : Nat.beq src dst && Nat.blt tt s.n <;> rw [hb] at h <;> simp only [cond_true, cond_false, reduceCtorEq, Option.some.injEq, Prod.mk.injEq, decide_eq_true_eq] at h
          obtain ⟨hpos, rfl⟩ := h
          simp only [Bool.and_eq_true] at hb
          have hsd := Nat.eq_of_beq_eq_true hb.1
          subst hsd
          rw [hus] at hud; cases hud
          obtain ⟨ad0, n0, c0, o1, hxe⟩ := ev_ok hr hx
          obtain ⟨ad, c', q1, q2⟩ := hr.fin.mem.holds _ _ hl
          rw [o1] at q1; simp only [Option.some.injEq, Prod.mk.injEq] at q1
          obtain ⟨rfl, rfl, rfl⟩ := q1
          rcases q2 with ⟨_, q, _⟩ | ⟨g, vs, fz, rfl, k2, k3, k4, k5, k6, k7, k8, k9⟩
          · subst q; simp at hpos
          · have hw : (w.freeze ⟨g, vs.size, none⟩ 1).heap[g]? = some (.cells vs E (if fz.1 == fz.2 then (vs.size, vs.size + 1) else (min fz.1 vs.size, max fz.2 (vs.size + 1)))) := by
              simp only [World.freeze, Nat.one_ne_zero, if_false, Array.getElem?_modify, k2]
              simp
            have hshape : w.shape? g = some (E, vs.size) := by simp only [World.shape?, k2]
            have hrun : (execOp a.eval ⟨some tt, .convert src src x, ty, pos, after, guard⟩).run P w = .ok (.value (.slice (some ⟨g, 0, none⟩) l.length c0)) (w.freeze ⟨g, vs.size, none⟩ 1) := by
              simp [execOp, hxe, convert, run_underlying' hus, run_underlying' hue, markStringish, hshape]
            refine oDoes_of_wp (by simp) ?_
            unfold Oper.wp
            rw [hrun]
            have hat : G.at k (.row τ l E) = some g := by simp [Gh.at, o1]
            have hbel : Bel (fun b => b = g) w (w.freeze ⟨g, vs.size, none⟩ 1) := by
              refine ⟨rfl, rfl, rfl, ?_, fun j hj hne => ?_⟩
              · simp [World.freeze]
              · simp only [World.freeze, Nat.one_ne_zero, if_false, Array.getElem?_modify]
                rw [if_neg (fun q => hne q.symm)]
            have hok : BoxOk G (w.freeze ⟨g, vs.size, none⟩ 1) k (.row τ l E) := by
              refine ⟨some ⟨g, 0, none⟩, c0, o1, .inr ⟨g, vs, _, rfl, hw, ?_, k4, k5, k6, k7, k8, k9⟩⟩
              refine .inr ?_
              split
              · exact Nat.le_refl _
              · rename_i hne
                rcases k3 with rfl | k3
                · simp at hne
                · simp only; omega
            have hfin := hr.fin.update (bx' := .row τ l E) hl hat hat hbel hok k9
            have hb2 : Nat.blt tt s.n = true := hb.2
            refine hN G _ _ ?_
            have hr2 : Rel w₀ G₀ hp₀ G { s with hp := (k, .row τ l E) :: s.hp } a (w.freeze ⟨g, vs.size, none⟩ 1) := ⟨hr.defers, hr.size, hr.frame, fun m hm hlm => hr.fresh m hm (by
              simp only [look] at hlm
              cases hbq : Nat.beq k m
              · rw [hbq] at hlm; exact hlm
              · rw [hbq] at hlm; cases hlm), hfin⟩
            exact aval_rel (v := .own k) hr2 (by simp only [St.add, hb2, cond_true, List.nil_append]) ⟨_, _, _, o1, rfl⟩
        · cases h
      · cases h
    · cases h
  · cases h
end
end Go.Sym
/- Calls of functions without a body, that answer at once and leave memory as it is. -/
namespace Go.Sym
open Go.RowKit
variable [LC]

def keyExt (f : FuncId) : Key → Bool
  | .ext f' => Nat.beq f' f
  | _ => false
/-- the entry of that name -/
def entOf (f : FuncId) : List Ent → Option Ent
  | [] => none
  | e :: es => bif keyExt f e.key then some e else entOf f es
def extOp {R : Type} (tb : Tb) (s : St) (o : Oper) (K : St → Option R) : Option (Option R) :=
  match o.op, o.dst with
  | .call { callee := .value g, args, argTypes := _ }, some tt => match s.ev g, s.evs args.toList with
    | some (.fn (.func f) [] []), some xs => match entOf f tb.ents with
      | some e => match Pts.get e.args (lends s.hp xs) [] with
        | some (d, nm) => match bget s.hp e.hp nm with
          | some (d', nm') => bif nilN nm' && Nat.blt tt s.n then
              some ((e.F d d').bind fun r => bif noRef (e.out.res r).1 then K { s with fr := (tt, (e.out.res r).1) :: s.fr } else none) else none
          | none => none
        | none => none
      | none => none
    | _, _ => none
  | _, _ => none
omit [LC] in
theorem entOf_mem {f : FuncId} : ∀ {es : List Ent} {e : Ent}, entOf f es = some e → e ∈ es ∧ e.key = .ext f
  | [], e, h => by cases h
  | e' :: es, e, h => by
    unfold entOf at h
    cases hb : keyExt f e'.key <;> rw [hb] at h <;> simp only [cond_true, cond_false, Option.some.injEq] at h
    · exact ⟨List.mem_cons_of_mem _ (entOf_mem h).1, (entOf_mem h).2⟩
    · subst h
      refine ⟨List.mem_cons_self, ?_⟩
      unfold keyExt at hb
      split at hb
      · rename_i f' hk; rw [hk, Nat.eq_of_beq_eq_true hb]
      · cases hb
section
variable {P : Program} {w₀ : World} {G₀ : Gh} {hp₀ : List (Nat × Box)} {G : Gh} {s : St} {a : Act} {w : World} {R : Type} {tb : Tb}
theorem extOp_ok (hT : ∀ e ∈ tb.ents, e.Sound P) (hr : Rel w₀ G₀ hp₀ G s a w) {o : Oper} {K : St → Option R} {r : Option R} {x : R} (h : extOp tb s o K = some r) (hx : r = some x) {N : Act → World → Prop} (hN : ∀ s', K s' = some x → ∀ G' a' w', Rel w₀ G₀ hp₀ G' s' a' w' → N a' w') : oDoes P o a w N := by
  obtain ⟨dst, op, ty, pos, after, guard⟩ := o
  unfold extOp at h
  split at h
  · rename_i g args ats tt e1 e2
    simp only at e1 e2; subst e1 e2
    split at h
    · rename_i f xs hg hargs
      split at h
      · rename_i e he
        split at h
        · rename_i d nm hget
          split at h
          · rename_i d' nm' hbg
            cases hb : nilN nm' && Nat.blt tt s.n <;> rw [hb] at h <;> simp only [cond_true, cond_false, reduceCtorEq, Option.some.injEq] at h
            simp only [Bool.and_eq_true] at hb
            have hn := nilN_eq hb.1
            subst hn
            rw [hx] at h
            obtain ⟨y, hy, h⟩ := Option.bind_eq_some_iff.1 h
            cases hnr : noRef (e.out.res y).1 <;> rw [hnr] at h <;> simp only [cond_true, cond_false, reduceCtorEq] at h
            obtain ⟨hmem, hkey⟩ := entOf_mem he
            have hs := hT e hmem d d' y hy
            rw [hkey] at hs
            have hs : ExtTo P f (Pts.put e.args d) (e.out.res y).1 := hs
            have hseen := (Pts.get_seen hget).2 [] rfl (fun n m hh => by have := (bget_seen hbg).1 n m hh; cases this)
            obtain ⟨ps, k1, k2⟩ := vws_lend (noIfs_put (ps := e.args) (d := d)) hseen
            obtain ⟨z1, z2, z3, z4⟩ := allData_spec hr.fin
            obtain ⟨fs, cs, hge, hfs, hcs⟩ := ev_ok hr hg
            have hfs0 : fs = #[] := Array.eq_empty_of_size_eq_zero (by have := hfs.length; simpa using this.symm)
            have hcs0 : cs = #[] := Array.eq_empty_of_size_eq_zero (by have := hcs.length; simpa using this.symm)
            subst hfs0 hcs0
            have hreps := vws_ok z1 (fun _ => z4) k1 k2 (evs_ok hr hargs)
            obtain ⟨v, hv1, hv2⟩ := hs w _ _ z2 hreps
            have hv3 : Rep (e.out.res y).1 G v := noRef_ok (G := G.allData s.hp w) (G' := G) (fun _ _ q => q) (fun _ _ q => q) hnr hv2
            have hrun : (execOp a.eval ⟨some tt, .call { callee := .value g, args := args, argTypes := ats }, ty, pos, after, guard⟩).run P w = .ok (.value v) w := by
              have e3 : (args.toList.map a.eval).toArray = args.map a.eval := by rw [← Array.toArray_toList (xs := args.map a.eval), Array.toList_map]
              try rw [e3] at hv1
              simp [execOp, resolve, hge, Deferred.ofValue, invoke, hv1]
            refine oDoes_of_wp (by simp) ?_
            unfold Oper.wp
            rw [hrun]
            have hb2 : Nat.blt tt s.n = true := hb.2
            exact hN _ h _ _ _ (aval_rel (v := (e.out.res y).1) hr (by simp only [St.add, hb2, cond_true, List.nil_append]) hv3)
          · cases h
        · cases h
      · cases h
    · cases h
  · cases h
end
end Go.Sym
/- Arrays of many elements of one cell: rows, read and written by index. -/
namespace Go.Sym
open Go.RowKit
variable [LC]

/-- the code of a basic type -/
def tyOf1 (P : Program) (t : TypeId) : Option Ty := match P.underlying t with
  | some (.int k) => match k with
    | .u8 => some .byte
    | k => some (.int k)
  | some .bool => some .bool
  | some .string => some .str
  | _ => none
def Ty.zero1 : (τ : Ty) → Option τ.den
  | .int _ => some (0 : Int)
  | .byte => some (0 : UInt8)
  | .bool => some false
  | .str => some ([] : List UInt8)
  | _ => none
def zeroIs : Ty → AV → Bool
  | .int k, x => match x with
    | .int k' n => decide (k' = k) && decide (n = 0)
    | _ => false
  | .byte, x => match x with
    | .byte c => decide (c = 0)
    | _ => false
  | .bool, x => match x with
    | .bool b => !b
    | _ => false
  | .str, x => match x with
    | .str s => s.isEmpty
    | _ => false
  | _, _ => false
def allZero (τ : Ty) : List AV → Bool
  | [] => true
  | x :: xs => zeroIs τ x && allZero τ xs
def Ty.is1 : Ty → Bool
  | .int _ => true
  | .byte => true
  | .bool => true
  | .str => true
  | _ => false
/-- a type of arrays that are rows -/
def bigArr (P : Program) (T : TypeId) : Bool := match P.underlying T with
  | some (.array n _) => Nat.blt 32 n
  | _ => false
/-- operations on arrays that are rows: what is tested, the state behind it -/
def arrOp (P : Program) (s : St) (o : Oper) : Option (Bool × St) :=
  match o.op, o.dst with
  | .alloc T, some t => match P.underlying T with
    | some (.array n E) => bif Nat.blt 32 n then
        match tyOf1 P E, tZero P T with
        | some τ, some zs => match τ.zero1 with
          | some z => bif Nat.beq zs.length n && allZero τ zs && Nat.ble n 65536 && AV.ones zs && noRange (s.nx + 16 * t) s.hp && Nat.blt t s.n then
              some (true, { s with fr := (t, .oel (s.nx + 16 * t) 1 0 0) :: s.fr, hp := (s.nx + 16 * t, .row τ (List.replicate n z) T) :: s.hp }) else none
          | none => none
        | _, _ => none
      else none
    | _ => none
  | .load T x, some t => bif bigArr P T then match s.ev x with
    | some (.oel k sz 0 0) => match look s.hp k, tAgg P T, tSize P T with
      | some (.row τ l _), some true, some n => bif τ.is1 && Nat.beq sz 1 && Nat.blt t s.n then some (decide (l.length = n), { s with fr := (t, .arr τ l) :: s.fr }) else none
      | _, _, _ => none
    | _ => none else none
  | .store T x y, none => bif bigArr P T then match s.ev x, s.ev y with
    | some (.oel k sz 0 0), some (.arr τ l) => match look s.hp k, tSize P T with
      | some (.row τ0 l0 E0), some n => bif τ.is1 && τ0.is1 && Nat.beq sz 1 then some (decide (l.length = l0.length) && decide (l.length = n), { s with hp := (k, .row τ l E0) :: s.hp }) else none
      | _, _ => none
    | _, _ => none else none
  | .indexAddr T x i, some t => bif bigArr P T then match P.underlying T with
    | some (.array n E) => match s.ev x, tSize P E with
      | some (.oel k sz 0 0), some 1 => bif Nat.beq sz 1 && Nat.blt t s.n then
          match s.evy i with
          | some (.int _ j) => some (decide (0 ≤ j) && decide (j < n), { s with fr := (t, .oel k 1 j.toNat 0) :: s.fr })
          | some (.byte c) => some (Nat.ble 256 n || decide (c.toNat < n), { s with fr := (t, .oel k 1 c.toNat 0) :: s.fr })
          | _ => none
        else none
      | _, _ => none
    | _ => none else none
  | _, _ => none
omit [LC] in
theorem is1_sz {τ : Ty} (h : τ.is1 = true) : τ.sz = 1 := by cases τ <;> first | rfl | cases h
omit [LC] in
theorem zero1_is1 {τ : Ty} {z : τ.den} (h : τ.zero1 = some z) : τ.is1 = true := by cases τ <;> first | rfl | cases h
omit [LC] in
theorem zeroIs_ok {τ : Ty} {x : AV} {z : τ.den} {G : Gh} {v : Value} (h : zeroIs τ x = true) (hz : τ.zero1 = some z) (hr : Rep x G v) : Reps (τ.enc z) G [v] := by
  cases τ with
  | int k =>
    cases x <;> simp only [zeroIs, Bool.false_eq_true, Bool.and_eq_true, decide_eq_true_eq] at h
    obtain ⟨rfl, rfl⟩ := h
    cases hz; exact ⟨hr, trivial⟩
  | byte =>
    cases x <;> simp only [zeroIs, Bool.false_eq_true, decide_eq_true_eq] at h
    subst h
    cases hz; exact ⟨hr, trivial⟩
  | bool =>
    cases x with
    | bool b =>
      cases b
      · cases hz; exact ⟨hr, trivial⟩
      · cases h
    | _ => cases h
  | str =>
    cases x with
    | str l =>
      cases l
      · cases hz; exact ⟨hr, trivial⟩
      · cases h
    | _ => cases h
  | _ => cases hz
omit [LC] in
theorem allZero_ok {τ : Ty} {z : τ.den} {G : Gh} (hz : τ.zero1 = some z) : ∀ {zs : List AV} {vs : List Value}, allZero τ zs = true → Reps zs G vs → Reps ((List.replicate zs.length z).flatMap τ.enc) G vs
  | [], [], _, _ => trivial
  | x :: zs, v :: vs, h, hr => by
    simp only [allZero, Bool.and_eq_true] at h
    rw [List.length_cons, List.replicate_succ, List.flatMap_cons]
    exact reps_append (vs := [v]) (zeroIs_ok h.1 hz hr.1) (allZero_ok hz h.2 hr.2)
  | [], _ :: _, _, h => h.elim
  | _ :: _, [], _, h => h.elim
omit [LC] in
theorem enc1 {τ : Ty} (h : τ.is1 = true) (x : τ.den) : τ.enc x = [τ.av x] := by cases τ <;> first | rfl | cases h
omit [LC] in
theorem av_V1 {τ : Ty} (h : τ.is1 = true) {x : τ.den} {G : Gh} {v : Value} : Rep (τ.av x) G v ↔ τ.V1 G.imm x v := by cases τ <;> first | exact Iff.rfl | cases h
omit [LC] in
theorem flat1 {τ : Ty} (h : τ.is1 = true) : ∀ (l : List τ.den), l.flatMap τ.enc = l.map τ.av
  | [] => rfl
  | x :: l => by rw [List.flatMap_cons, enc1 h, flat1 h l]; rfl
omit [LC] in
/-- an array's value as cells -/
theorem arr_reps {τ : Ty} (h : τ.is1 = true) {l : List τ.den} {G : Gh} {v : Value} (hv : Rep (.arr τ l) G v) : ∃ vs : Array Value, v = .agg vs ∧ Reps (l.flatMap τ.enc) G.data vs.toList := by
  obtain ⟨vs, rfl, h1, h2⟩ := hv
  refine ⟨vs, rfl, ?_⟩
  rw [flat1 h]
  have : ∀ (l : List τ.den) (us : List Value), us.length = l.length → (∀ (j : Nat) (x : τ.den), l[j]? = some x → ∃ u, us[j]? = some u ∧ τ.V1 G.imm x u) → Reps (l.map τ.av) G.data us := by
    intro l
    induction l with
    | nil => intro us hl _; rw [List.eq_nil_of_length_eq_zero hl]; trivial
    | cons x l ih =>
      intro us hl hu
      cases us with
      | nil => cases hl
      | cons u us =>
        refine ⟨?_, ih us (by simpa using hl) (fun j y hy => hu (j + 1) y (by simpa using hy))⟩
        obtain ⟨u', e, k⟩ := hu 0 x rfl
        simp only [List.getElem?_cons_zero, Option.some.injEq] at e; subst e
        exact (av_V1 h (G := G.data)).2 k
  exact this l vs.toList (by simpa using h1) (fun j x hx => by obtain ⟨u, k1, k2⟩ := h2 j x hx; exact ⟨u, by simpa using k1, k2⟩)
omit [LC] in
theorem reps_arr {τ : Ty} (h : τ.is1 = true) {l : List τ.den} {G : Gh} {vs : List Value} (hv : Reps (l.flatMap τ.enc) G.data vs) : Rep (.arr τ l) G (.agg vs.toArray) := by
  rw [flat1 h] at hv
  refine ⟨vs.toArray, rfl, by simpa using hv.length.symm, fun j x hx => ?_⟩
  obtain ⟨u, k1, k2⟩ := reps_get hv (i := j) (x := τ.av x) (by simp [hx])
  exact ⟨u, by simpa using k1, (av_V1 h (G := G.data)).1 k2⟩
section
variable {P : Program} {w₀ : World} {G₀ : Gh} {hp₀ : List (Nat × Box)} {G : Gh} {s : St} {a : Act} {w : World}
theorem arrOp_ok (hr : Rel w₀ G₀ hp₀ G s a w) {o : Oper} {s' : St} (h : arrOp P s o = some (true, s')) {N : Act → World → Prop} (hN : ∀ G' a' w', Rel w₀ G₀ hp₀ G' s' a' w' → N a' w') : oDoes P o a w N := by
  obtain ⟨dst, op, ty, pos, after, guard⟩ := o
  unfold arrOp at h
  split at h
  · rename_i T t e1 e2
    simp only at e1 e2; subst e1 e2
    split at h
    · rename_i n E hu
      cases hn : Nat.blt 32 n <;> rw [hn] at h <;> simp only [cond_true, cond_false, reduceCtorEq] at h
      split at h
      · rename_i τ zs hτ hzs
        split at h
        · rename_i z hz
          cases hb : Nat.beq zs.length n && allZero τ zs && Nat.ble n 65536 && AV.ones zs && noRange (s.nx + 16 * t) s.hp && Nat.blt t s.n <;> rw [hb] at h <;> simp only [cond_true, cond_false, reduceCtorEq, Option.some.injEq, Prod.mk.injEq, true_and] at h
          subst h
          simp only [Bool.and_eq_true] at hb
          obtain ⟨⟨⟨⟨⟨b1, b2⟩, b3⟩, b4⟩, b5⟩, b6⟩ := hb
          have b1 := Nat.eq_of_beq_eq_true b1
          have b3 : n ≤ 65536 := Nat.le_of_ble_eq_true b3
          have hsz : τ.sz = 1 := is1_sz (zero1_is1 hz)
          obtain ⟨Z, hz1, hz2⟩ := run_zero' (P := P) hzs w G.data
          have hlen : Z.cells.toList.length = n := by rw [← hz2.length, b1]
          have hreps := allZero_ok hz b2 hz2
          rw [b1] at hreps
          have hone := reps_ones hz2 b4
          have hrun : (execOp a.eval ⟨some t, .alloc T, ty, pos, after, guard⟩).run P w = .ok (.value (.pointer (some ⟨w.heap.size, 0, none⟩))) (w.alloc (.cells Z.cells T)) := by
            simp [execOp, Instr.alloc, hz1, newVar, newRow]
          refine oDoes_of_wp (by simp) ?_
          unfold Oper.wp
          rw [hrun]
          have hrow : RowAt (w.alloc (.cells Z.cells T)) T τ.sz (some ⟨w.heap.size, 0, none⟩) (List.replicate n z).length n Z.cells.toList := by
            refine ⟨by rw [hsz, hlen]; simp, .inr ⟨w.heap.size, Z.cells, (0, 0), rfl, heap_alloc_top _ _, .inl rfl, by simp, ?_, ?_, ?_, hone⟩⟩
            · exact Nat.le_trans b3 (by decide)
            · rw [hsz, ← hlen]; simp
            · rw [List.take_of_length_le]; rw [hsz, hlen]; simp
          obtain ⟨G', hG⟩ := row_relV (t := t) (v := .oel (s.nx + 16 * t) 1 0 0) (u := .pointer (some ⟨w.heap.size, 0, none⟩)) (s' := { s with fr := (t, .oel (s.nx + 16 * t) 1 0 0) :: s.fr, hp := (s.nx + 16 * t, .row τ (List.replicate n z) T) :: s.hp }) hr b5 (still_alloc _ _) hrow hreps
            (fun b hb => by injection hb with hb; subst hb; exact Nat.le_refl _) (fun G' hG' => ⟨w.heap.size, _, n, hG', by simp⟩)
            (by have hb2 : Nat.blt t s.n = true := b6; simp only [St.add, hb2, cond_true]; rfl)
          exact hN _ _ _ hG
        · cases h
      · cases h
    · cases h
  · rename_i T x t e1 e2
    simp only at e1 e2; subst e1 e2
    cases hbig : bigArr P T <;> rw [hbig] at h <;> simp only [cond_true, cond_false, reduceCtorEq] at h
    split at h
    · rename_i k sz hx
      split at h
      · rename_i τ l E n hl hagg hn
        cases hb : τ.is1 && Nat.beq sz 1 && Nat.blt t s.n <;> rw [hb] at h <;> simp only [cond_true, cond_false, reduceCtorEq, Option.some.injEq, Prod.mk.injEq, decide_eq_true_eq] at h
        obtain ⟨hlen, rfl⟩ := h
        simp only [Bool.and_eq_true] at hb
        obtain ⟨⟨b1, b2⟩, b3⟩ := hb
        have hsz : τ.sz = 1 := is1_sz b1
        obtain ⟨B, n0, c0, ho, hxe⟩ := ev_ok hr hx
        obtain ⟨ad, c', h1, h3⟩ := hr.fin.mem.holds _ _ hl
        rw [ho] at h1; simp only [Option.some.injEq, Prod.mk.injEq] at h1
        obtain ⟨rfl, rfl, rfl⟩ := h1
        rcases h3 with ⟨h3, _⟩ | ⟨g, vs, fz, k1, k2, k3, k4, k5, k6, k7, k8, k9⟩
        · cases h3
        · simp only [Option.some.injEq, Addr.mk.injEq, and_true] at k1
          subst k1
          have hfl : (l.flatMap τ.enc).length = n := by rw [flat_len, hsz, hlen, Nat.mul_one]
          have hload : aload P T (l.flatMap τ.enc) 0 = some (.agg (l.flatMap τ.enc)) := by
            unfold aload
            rw [hagg, hn]
            have : Nat.ble (0 + n) (l.flatMap τ.enc).length = true := by rw [hfl, Nat.zero_add]; simp
            simp only [this, cond_true, List.drop_zero]
            rw [List.take_of_length_le (by rw [hfl]; exact Nat.le_refl _)]
          obtain ⟨u, hu, us, rfl, hru⟩ := run_loadVar' (P := P) (w := w) hload (B := B) (o := 0) k7 (fun j u hu => by
            rw [List.getElem?_take] at hu
            split at hu
            · rw [Nat.zero_add]; exact cell_of_heap k2 hu
            · cases hu)
          have hrun : (execOp a.eval ⟨some t, .load T x, ty, pos, after, guard⟩).run P w = .ok (.value (.agg us)) w := by
            simp only [Nat.add_zero] at hu
            simp [execOp, hxe, Instr.loadAt, Instr.sureAddr, hu]
          refine oDoes_of_wp (by simp) ?_
          unfold Oper.wp
          rw [hrun]
          have hb2 : Nat.blt t s.n = true := b3
          have := reps_arr (G := G) b1 hru
          exact hN _ _ _ (aval_rel (v := .arr τ l) hr (by simp only [St.add, hb2, cond_true, List.nil_append]) (by simpa using this))
      · cases h
    · cases h
  · rename_i T x y e1 e2
    simp only at e1 e2; subst e1 e2
    cases hbig : bigArr P T <;> rw [hbig] at h <;> simp only [cond_true, cond_false, reduceCtorEq] at h
    split at h
    · rename_i k sz τ l hx hy
      split at h
      · rename_i τ0 l0 E0 n hl hn
        cases hb : τ.is1 && τ0.is1 && Nat.beq sz 1 <;> rw [hb] at h <;> simp only [cond_true, cond_false, reduceCtorEq, Option.some.injEq, Prod.mk.injEq, Bool.and_eq_true, decide_eq_true_eq] at h
        obtain ⟨⟨hlen, hlen2⟩, rfl⟩ := h
        simp only [Bool.and_eq_true] at hb
        obtain ⟨⟨b1, b2⟩, b3⟩ := hb
        have hsz : τ.sz = 1 := is1_sz b1
        have hsz0 : τ0.sz = 1 := is1_sz b2
        obtain ⟨B, n0, c0, ho0, hxe⟩ := ev_ok hr hx
        obtain ⟨us, hye, hus⟩ := arr_reps b1 (ev_ok hr hy)
        obtain ⟨ad, c, h1, h3⟩ := hr.fin.mem.holds _ _ hl
        rw [ho0] at h1; simp only [Option.some.injEq, Prod.mk.injEq] at h1
        obtain ⟨rfl, rfl, rfl⟩ := h1
        rcases h3 with ⟨h3, _⟩ | ⟨g, vs, fz, k1, k2, k3, k4, k5, k6, k7, k8, k9⟩
        · cases h3
        · simp only [Option.some.injEq, Addr.mk.injEq, and_true] at k1
          subst k1
          have hul : us.toList.length = n := by rw [← hus.length, flat_len, hsz, hlen2, Nat.mul_one]
          have hones : ∀ v ∈ us.toList, v.oneCell' = true := reps_ones hus (by
            rw [flat1 b1]
            have : ∀ l : List τ.den, AV.ones (l.map τ.av) = true := by
              intro l
              induction l with
              | nil => rfl
              | cons x l ih =>
                simp only [List.map_cons, AV.ones, ih, Bool.and_true]
                cases τ <;> first | rfl | cases b1
            exact this l)
          have hle : l0.length ≤ vs.size := by rw [k6, hsz0, Nat.mul_one]; exact k4
          obtain ⟨w', cur', m1, m2, m3, m4⟩ := run_storeCells' (P := P) B 0 E0 fz us.toList 0 vs w k2 (by omega) k3 hones
          have hrun : (execOp a.eval ⟨none, .store T x y, ty, pos, after, guard⟩).run P w = .ok .skip w' := by
            have hul' : us.size = n := by simpa using hul
            simp [execOp, Instr.storeAt, hxe, hye, Instr.sureAddr, storeVar, run_sizeOf' hn, Value.cells, hul', m1]
          refine oDoes_of_wp (by simp) ?_
          unfold Oper.wp
          rw [hrun]
          have hcs : cur'.size = vs.size := by rw [← Array.length_toList, m3, vsplice_length, Array.length_toList]
          refine hN G _ _ ⟨hr.defers, hr.size, hr.frame, fun m hm hlm => hr.fresh m hm ?_, ?_⟩
          · simp only [look] at hlm
            cases hbq : Nat.beq k m
            · rw [hbq] at hlm; exact hlm
            · rw [hbq] at hlm; cases hlm
          · refine hr.fin.update (bx' := .row τ l E0) hl (B := B) (by simp [Gh.at, ho0]) (by simp [Gh.at, ho0]) m4 ⟨some ⟨B, 0, none⟩, c0, by rw [hlen]; exact ho0, .inr ⟨B, cur', fz, rfl, m2, by rw [hcs]; exact k3, by rw [hlen]; exact k4, k5, by rw [hcs, hsz, ← hsz0]; exact k6, ?_, ?_, k9⟩⟩ k9
            · rw [m3, hsz, Nat.mul_one, Nat.add_zero]
              have := vsplice_take us.toList vs.toList 0 (by simp only [Array.length_toList] at hul ⊢; omega)
              rw [Nat.zero_add, List.take_zero, List.nil_append] at this
              rw [hlen2, ← hul, this]; exact hus
            · intro u hu
              rw [m3] at hu
              rcases vsplice_mem _ _ _ _ hu with hu | hu
              · exact k8 u hu
              · exact hones u hu
      · cases h
    · cases h
  · rename_i T x i t e1 e2
    simp only at e1 e2; subst e1 e2
    cases hbig : bigArr P T <;> rw [hbig] at h <;> simp only [cond_true, cond_false, reduceCtorEq] at h
    split at h
    · rename_i n E hu
      split at h
      · rename_i k sz hx hsz
        cases hb : Nat.beq sz 1 && Nat.blt t s.n <;> rw [hb] at h <;> simp only [cond_true, cond_false, reduceCtorEq] at h
        simp only [Bool.and_eq_true] at hb
        have b1 := Nat.eq_of_beq_eq_true hb.1
        subst b1
        obtain ⟨B, n0, c0, ho, hxe⟩ := ev_ok hr hx
        have hb2 : Nat.blt t s.n = true := hb.2
        have key : ∀ (j : Nat) (kk : IntKind), a.eval i = .int kk (j : Int) → j < n → s' = { s with fr := (t, .oel k 1 j 0) :: s.fr } → oDoes P ⟨some t, .indexAddr T x i, ty, pos, after, guard⟩ a w N := by
          intro j kk hi hj hs'
          have hrun : (execOp a.eval ⟨some t, .indexAddr T x i, ty, pos, after, guard⟩).run P w = .ok (.value (.pointer (some ⟨B, j, none⟩))) w := by
            simp [execOp, hxe, hi, Instr.indexAt, asIntOf, run_underlying' hu, run_sizeOf' hsz, add_plain, Instr.sureAddr, hj]
          refine oDoes_of_wp (by simp) ?_
          unfold Oper.wp
          rw [hrun]
          subst hs'
          exact hN _ _ _ (aval_rel (v := .oel k 1 j 0) hr (by simp only [St.add, hb2, cond_true, List.nil_append]) ⟨B, n0, c0, ho, by simp⟩)
        split at h
        · rename_i kk j hi
          simp only [Option.some.injEq, Prod.mk.injEq, Bool.and_eq_true, decide_eq_true_eq] at h
          obtain ⟨⟨h1, h2⟩, h3⟩ := h
          have hie : a.eval i = .int kk j := evy_ok hr hi
          exact key j.toNat kk (by rw [Int.toNat_of_nonneg h1]; exact hie) (by omega) h3.symm
        · rename_i c hi
          simp only [Option.some.injEq, Prod.mk.injEq, Bool.or_eq_true, decide_eq_true_eq] at h
          obtain ⟨h1, h3⟩ := h
          have hie : a.eval i = .int .u8 c.toNat := evy_ok hr hi
          have hlt : c.toNat < n := by
            rcases h1 with h1 | h1
            · have := Nat.le_of_ble_eq_true h1; have := c.toNat_lt; omega
            · exact h1
          exact key c.toNat .u8 hie hlt h3.symm
        · cases h
      · cases h
    · cases h
  · cases h
end
end Go.Sym
/- One operation, and a region in the order of the text, with what is emitted. -/
namespace Go.Sym
open Go.RowKit
variable [LC]

/- own slices that a pattern wants to see as data -/
mutual
def ownsOf : AV → List Nat
  | .own k => [k]
  | .agg xs => ownsOfs xs
  | .tup xs => ownsOfs xs
  | .fn _ _ xs => ownsOfs xs
  | _ => []
def ownsOfs : List AV → List Nat
  | [] => []
  | x :: xs => ownsOf x ++ ownsOfs xs
end
mutual
def frzOf : Pt → AV → List Nat
  | .h _, x => ownsOf x
  | .agg ps, x => match x with
    | .agg xs => frzOfs ps xs
    | _ => []
  | .tup ps, x => match x with
    | .tup xs => frzOfs ps xs
    | _ => []
  | .fn _ ps, x => match x with
    | .fn _ _ xs => frzOfs ps xs
    | _ => []
  | _, _ => []
def frzOfs : List Pt → List AV → List Nat
  | [], _ => []
  | p :: ps, xs => match xs with
    | x :: xs => frzOf p x ++ frzOfs ps xs
    | [] => []
end
def frzL : List Nat → St → St
  | [], s => s
  | k :: ks, s => match s.freeze k with
    | some s' => frzL ks s'
    | none => frzL ks s
/- the names that patterns give -/
mutual
def nmP : Pt → AV → NM
  | .ptr b _, x => match asPtr x with
    | some (b', _) => [(b, b')]
    | none => []
  | .own k, x => match asOwn x with
    | some k' => [(k, k')]
    | none => []
  | .el k _, x => match asEl x with
    | some (k', _) => [(k, k')]
    | none => []
  | .yld k, x => match asYld x with
    | some k' => [(k, k')]
    | none => []
  | .agg ps, x => match asAgg x with
    | some xs => nmPs ps xs
    | none => []
  | .tup ps, x => match asTup x with
    | some xs => nmPs ps xs
    | none => []
  | .fn _ ps, x => match asFn x with
    | some (_, xs) => nmPs ps xs
    | none => []
  | _, _ => []
def nmPs : List Pt → List AV → NM
  | [], _ => []
  | p :: ps, xs => match xs with
    | x :: xs => nmP p x ++ nmPs ps xs
    | [] => []
end
def lookB : List (Nat × BPt) → Nat → Option BPt
  | [], _ => none
  | (k, v) :: r, i => bif Nat.beq k i then some v else lookB r i
/- boxes: own slices turned to data, nil to own slices -/
def coB1 (bs : List (Nat × BPt)) (b : Nat) : List Pt → Nat → St → St
  | [], _, s => s
  | p :: ps, off, s => match p, look s.hp b with
    | .own k, some (.cells cs _) => match lookB bs k, cs[off]? with
      | some (.row τ E), some x => bif isNil x then (match s.ownCell b off τ E with
          | some s' => coB1 bs b ps (off + 1) s'
          | none => coB1 bs b ps (off + 1) s) else coB1 bs b ps (off + 1) s
      | _, _ => coB1 bs b ps (off + 1) s
    | p, some (.cells cs _) => match cs[off]? with
      | some x => coB1 bs b ps (off + 1) (frzL (frzOf p x) s)
      | none => coB1 bs b ps (off + 1) s
    | _, _ => coB1 bs b ps (off + 1) s
def coB (bs : List (Nat × BPt)) (nm : NM) : List (Nat × BPt) → St → St
  | [], s => s
  | (n, p) :: r, s => match p, lookN nm n with
    | .cells ps _, some b => coB bs nm r (coB1 bs b ps 0 s)
    | .dat _ _, some b => match look s.hp b with
      | some (.cells cs _) => coB bs nm r (frzL (ownsOfs cs) s)
      | _ => coB bs nm r s
    | _, _ => coB bs nm r s
/- slots -/
def coF (bs : List (Nat × BPt)) : List (Nat × Pt) → St → St
  | [], s => s
  | (i, p) :: r, s => match p, look s.fr i with
    | .own k, some x => bif isNil x then (match lookB bs k with
        | some (.row τ E) => match s.ownNil i τ E with
          | some s' => coF bs r s'
          | none => coF bs r s
        | _ => coF bs r s) else coF bs r s
    | p, some x => coF bs r (frzL (frzOf p x) s)
    | _, none => coF bs r s
def nmF (fr : List (Nat × AV)) : List (Nat × Pt) → NM
  | [] => []
  | (i, p) :: r => match look fr i with
    | some x => nmP p x ++ nmF fr r
    | none => nmF fr r
/-- names by a way through memory -/
def nmH (s : St) : List (Nat × BPt) → NM → NM
  | [], nm => nm
  | (n, p) :: r, nm => match lookN nm n with
    | some b => match p, look s.hp b with
      | .cells ps _, some (.cells cs _) => nmH s r (nm ++ nmPs ps cs)
      | .loop _ _ _ _ fr _ _ D, some (.loop _ _ _ _ fr' _ _ D') => nmH s r (nm ++ ((D, D') :: nmF fr' fr))
      | _, _ => nmH s r nm
    | none => nmH s r nm
def LS.co (ls : LS) (ids : NM) (s : St) : St := coF ls.hp ls.fr (coB ls.hp (nmH s ls.hp (ids ++ nmF s.fr ls.fr)) ls.hp s)

section
variable {P : Program} {w₀ : World} {G₀ : Gh} {hp₀ : List (Nat × Box)} {a : Act} {w : World}
theorem Rel.frzL : ∀ {ks : List Nat} {s : St} {G : Gh}, Rel w₀ G₀ hp₀ G s a w → ∃ G', Rel w₀ G₀ hp₀ G' (frzL ks s) a w
  | [], s, G, hr => ⟨G, hr⟩
  | k :: ks, s, G, hr => by
    simp only [Sym.frzL]
    split
    · rename_i s' h
      obtain ⟨G', hr'⟩ := hr.freeze h
      exact Rel.frzL hr'
    · exact Rel.frzL hr
theorem Rel.coB1 {bs : List (Nat × BPt)} {b : Nat} : ∀ {ps : List Pt} {off : Nat} {s : St} {G : Gh}, Rel w₀ G₀ hp₀ G s a w → ∃ G', Rel w₀ G₀ hp₀ G' (coB1 bs b ps off s) a w
  | [], _, s, G, hr => ⟨G, hr⟩
  | p :: ps, off, s, G, hr => by
    unfold Sym.coB1
    split
    · split
      · rename_i x _ _
        cases hb : isNil x <;> simp only [cond_true, cond_false]
        · exact Rel.coB1 hr
        · split
          · rename_i h
            obtain ⟨G', hr'⟩ := hr.ownCell h
            exact Rel.coB1 hr'
          · exact Rel.coB1 hr
      · exact Rel.coB1 hr
    · split
      · obtain ⟨G', hr'⟩ := hr.frzL
        exact Rel.coB1 hr'
      · exact Rel.coB1 hr
    · exact Rel.coB1 hr
theorem Rel.coB {bs : List (Nat × BPt)} {nm : NM} : ∀ {l : List (Nat × BPt)} {s : St} {G : Gh}, Rel w₀ G₀ hp₀ G s a w → ∃ G', Rel w₀ G₀ hp₀ G' (coB bs nm l s) a w
  | [], s, G, hr => ⟨G, hr⟩
  | (n, p) :: r, s, G, hr => by
    unfold Sym.coB
    split
    · obtain ⟨G', hr'⟩ := hr.coB1
      exact Rel.coB hr'
    · split
      · obtain ⟨G', hr'⟩ := hr.frzL
        exact Rel.coB hr'
      · exact Rel.coB hr
    · exact Rel.coB hr
theorem Rel.coF {bs : List (Nat × BPt)} : ∀ {l : List (Nat × Pt)} {s : St} {G : Gh}, Rel w₀ G₀ hp₀ G s a w → ∃ G', Rel w₀ G₀ hp₀ G' (coF bs l s) a w
  | [], s, G, hr => ⟨G, hr⟩
  | (i, p) :: r, s, G, hr => by
    unfold Sym.coF
    split
    · rename_i x _
      cases hb : isNil x <;> simp only [cond_true, cond_false]
      · exact Rel.coF hr
      · split
        · split
          · rename_i h
            obtain ⟨G', hr'⟩ := hr.ownNil h
            exact Rel.coF hr'
          · exact Rel.coF hr
        · exact Rel.coF hr
    · obtain ⟨G', hr'⟩ := hr.frzL
      exact Rel.coF hr'
    · exact Rel.coF hr
theorem Rel.co {s : St} {G : Gh} (hr : Rel w₀ G₀ hp₀ G s a w) (ls : LS) (ids : NM) : ∃ G', Rel w₀ G₀ hp₀ G' (ls.co ids s) a w := by
  obtain ⟨G', hr'⟩ := hr.coB (bs := ls.hp) (nm := nmH s ls.hp (ids ++ nmF s.fr ls.fr)) (l := ls.hp)
  exact hr'.coF
end

def nmY (k : Key) (m : Nat) : NM := match k with
  | .yld m' => [(m', m)]
  | _ => []
/-- entries for a callee -/
def entFor (g : Ent → Bool) : List Ent → Option Ent
  | [] => none
  | e :: es => bif g e then some e else entFor g es
/-- own slices that a callee wants to see as data -/
def coer (tb : Tb) (s : St) (op : Op) : Option St :=
  match op with
  | .call { callee := .value g, args, argTypes := _ } => match s.ev g, s.evs args.toList with
    | some (.fn (.func f) [] cap), some xs => match entFor (fun e => keyIs f e.key) tb.ents with
      | some e => some (coB e.hp (nmH s e.hp (nmPs e.args (xs ++ cap))) e.hp (frzL (frzOfs e.args (xs ++ cap)) s))
      | none => none
    | some (.yld m), some ys => match look s.hp m with
      | some (.loop _ _ _ _ _ _ tag _) => match entFor (fun e => match e.key with
          | .yld m' => match lookB e.hp m' with
            | some (.loop _ _ _ _ _ _ tag' _) => Nat.beq tag' tag
            | _ => false
          | _ => false) tb.ents with
        | some e => some (coB e.hp (nmH s e.hp (nmY e.key m ++ nmPs e.args ys)) e.hp (frzL (frzOfs e.args ys) s))
        | none => none
      | _ => none
    | _, _ => none
  | .slice _ x _ _ _ => match s.ev x with
    | some (.own k) => some (frzL [k] s)
    | _ => none
  | _ => none
def exq {R : Type} (P : Program) (tb : Tb) (s : St) (o : Oper) (K : St → Option R) : Option R :=
  match areq P tb s o.op with
  | some q => q.K fun d => match aex P s d o with
    | some (_, s') => K s'
    | none => none
  | none => none
def isSomeQ : Option Rq → Bool
  | some _ => true
  | none => false
def ex1 {R : Type} (P : Program) (tb : Tb) (s : St) (o : Oper) (K : St → Option R) : Option R :=
  match arrOp P s o with
  | some (b, s') => bif b then K s' else none
  | none => match fixOp P s o with
  | some (b, s') => bif b then K s' else none
  | none => match extOp tb s o K with
  | some r => r
  | none => match subOp P tb s o with
  | some (b, s') => bif b then K s' else none
  | none => bif isSomeQ (areq P tb s o.op) then exq P tb s o K else
    match coer tb s o.op with
    | some s' => exq P tb s' o K
    | none => none
/-- a truth value of a slot, known now -/
def St.know (s : St) (x : Operand) (b : Bool) : St := match x with
  | .tmp t => bif Nat.blt t s.n then { s with fr := (t, .val (.bool b)) :: s.fr } else s
  | _ => s
def dstOf (ops : Array Oper) (j : Nat) : Operand := match ops[j]? with
  | some o => match o.dst with
    | some t => .tmp t
    | none => .const undef
  | none => .const undef
def op1 {R : Type} (P : Program) (tb : Tb) (ops : Array Oper) (s : St) (o : Oper) (K : St → Option R) : Option R :=
  match o.guard with
  | none => ex1 P tb s o K
  | some (j, want) => match guardOf ops s j with
    | none => none
    | some none => match s.add o.dst (.val undef) [] with
      | some s' => K s'
      | none => none
    | some (some b) => bif b then
        (bif want then ex1 P tb (s.know (dstOf ops j) true) o K else match (s.know (dstOf ops j) true).add o.dst (.val undef) [] with
          | some s' => K s'
          | none => none)
      else (bif want then (match (s.know (dstOf ops j) false).add o.dst (.val undef) [] with
          | some s' => K s'
          | none => none) else ex1 P tb (s.know (dstOf ops j) false) o K)
def opsR {R : Type} (P : Program) (tb : Tb) (ops : Array Oper) : List Oper → St → (St → Option R) → Option R
  | [], s, K => K s
  | o :: l, s, K => op1 P tb ops s o fun s' => opsR P tb ops l s' K

section
variable {P : Program} {w₀ : World} {G₀ : Gh} {hp₀ : List (Nat × Box)} {G : Gh} {a : Act} {w : World} {R : Type} {tb : Tb} {s : St}
theorem exq_ok (hT : ∀ e ∈ tb.ents, e.Sound P) (hr : Rel w₀ G₀ hp₀ G s a w) {o : Oper} {K : St → Option R} {x : R} (h : exq P tb s o K = some x) {N : Act → World → Prop} (hN : ∀ s', K s' = some x → ∀ G' a' w', Rel w₀ G₀ hp₀ G' s' a' w' → N a' w') : oDoes P o a w N := by
  unfold exq at h
  split at h
  · rename_i q hq
    obtain ⟨d, h1, h2⟩ := Rq.K_some h
    split at h2
    · rename_i ps s' ha
      exact aex_ok hr ha (areq_ok hT hq h1 ha) (hN s' h2)
    · cases h2
  · cases h
theorem ex1_ok (hT : ∀ e ∈ tb.ents, e.Sound P) (hr : Rel w₀ G₀ hp₀ G s a w) {o : Oper} {K : St → Option R} {x : R} (h : ex1 P tb s o K = some x) {N : Act → World → Prop} (hN : ∀ s', K s' = some x → ∀ G' a' w', Rel w₀ G₀ hp₀ G' s' a' w' → N a' w') : oDoes P o a w N := by
  unfold ex1 at h
  split at h
  · rename_i b s' hs
    cases b <;> simp only [cond_true, cond_false, reduceCtorEq] at h
    exact arrOp_ok hr hs (hN s' h)
  split at h
  · rename_i b s' hs
    cases b <;> simp only [cond_true, cond_false, reduceCtorEq] at h
    exact fixOp_ok hr hs (hN s' h)
  split at h
  · rename_i r' hs
    exact extOp_ok hT hr hs h hN
  split at h
  · rename_i b s' hs
    cases b <;> simp only [cond_true, cond_false, reduceCtorEq] at h
    exact subOp_ok hr hs (hN s' h)
  cases hq : isSomeQ (areq P tb s o.op) <;> rw [hq] at h <;> simp only [cond_true, cond_false] at h
  · split at h
    · rename_i s' hs
      have : ∃ G', Rel w₀ G₀ hp₀ G' s' a w := by
        unfold coer at hs
        split at hs
        · split at hs
          · split at hs
            · simp only [Option.some.injEq] at hs; subst hs
              obtain ⟨G1, hr1⟩ := hr.frzL
              exact hr1.coB
            · cases hs
          · split at hs
            · split at hs
              · simp only [Option.some.injEq] at hs; subst hs
                obtain ⟨G1, hr1⟩ := hr.frzL
                exact hr1.coB
              · cases hs
            · cases hs
          · cases hs
        · split at hs
          · simp only [Option.some.injEq] at hs; subst hs; exact hr.frzL
          · cases hs
        · cases hs
      obtain ⟨G', hr'⟩ := this
      exact exq_ok hT hr' h hN
    · cases h
  · exact exq_ok hT hr h hN
theorem Rel.know (hr : Rel w₀ G₀ hp₀ G s a w) {x : Operand} {b : Bool} (h : a.eval x = .bool b) : Rel w₀ G₀ hp₀ G (s.know x b) a w := by
  unfold St.know
  split
  · rename_i t
    cases hb : Nat.blt t s.n
    · exact hr
    · refine ⟨hr.defers, hr.size, fun i y hy => ?_, hr.fresh, hr.fin⟩
      simp only [cond_true, look] at hy
      cases hq : Nat.beq t i
      · rw [hq] at hy; exact hr.frame i y hy
      · rw [hq] at hy; simp only [cond_true, Option.some.injEq] at hy; subst hy
        have := Nat.eq_of_beq_eq_true hq; subst this
        have hlt : t < a.tmps.size := by rw [hr.size]; exact Nat.lt_of_lt_of_le (Nat.lt_succ_self t) (Nat.le_of_ble_eq_true hb)
        refine ⟨a.tmps[t], by simp [hlt], ?_⟩
        have h : a.tmps.getD t undef = .bool b := h
        simp only [Array.getD, hlt, dif_pos] at h
        exact h
  · exact hr
omit [LC] in
theorem yielded_dst {ops : Array Oper} {j : Nat} {b : Bool} (h : yielded ops a.tmps j = some b) : a.eval (dstOf ops j) = .bool b := by
  unfold dstOf
  unfold yielded at h
  cases ho : ops[j]? with
  | none => rw [ho] at h; simp at h
  | some o =>
    rw [ho] at h
    cases hd : o.dst with
    | none => simp [hd] at h
    | some t =>
      simp only [hd, Option.bind_some] at h ⊢
      show a.tmps.getD t undef = _
      rw [Array.getD_eq_getD_getElem?]
      cases hv : a.tmps[t]? with
      | none => rw [hv] at h; simp at h
      | some v =>
        rw [hv] at h
        simp only [Option.getD_some] at h ⊢
        split at h
        · rename_i e; simp only [Option.some.injEq] at h; subst h; exact Option.some.inj e
        · cases h
theorem Rel.skip (hr : Rel w₀ G₀ hp₀ G s a w) {dst : Option Tmp} {s' : St} (h : s.add dst (.val undef) [] = some s') : Rel w₀ G₀ hp₀ G s' (a.put dst undef) w := aval_rel hr h rfl
theorem op1_ok (hT : ∀ e ∈ tb.ents, e.Sound P) (hr : Rel w₀ G₀ hp₀ G s a w) {ops : Array Oper} {i : Nat} {o : Oper} (ho : ops[i]? = some o) {K : St → Option R} {x : R} (h : op1 P tb ops s o K = some x) {N : Act → World → Prop} (hN : ∀ s', K s' = some x → ∀ G' a' w', Rel w₀ G₀ hp₀ G' s' a' w' → N a' w') : dOp P ops i N a w := by
  have skip : ∀ {s : St}, Rel w₀ G₀ hp₀ G s a w → (match s.add o.dst (.val undef) [] with | some s' => K s' | none => none) = some x → ¬ Region.wanted o (yielded ops a.tmps) = true → dOp P ops i N a w := fun hr h hw => by
    split at h
    · rename_i s' hs
      exact dOp_skip ho hw (hN s' h _ _ _ (hr.skip hs))
    · cases h
  unfold op1 at h
  split at h
  · rename_i hg
    exact dOp_of ho (by simp [Region.wanted, hg]) (ex1_ok hT hr h hN)
  · rename_i j want hg
    split at h
    · cases h
    · rename_i hgo
      have hy := guardOf_ok hr hgo
      exact skip hr h (by simp [Region.wanted, hg, hy])
    · rename_i b hgo
      have hy := guardOf_ok hr hgo
      have hk := hr.know (yielded_dst hy)
      cases b <;> cases want <;> simp only [cond_true, cond_false] at h
      · exact dOp_of ho (by simp [Region.wanted, hg, hy]) (ex1_ok hT hk h hN)
      · exact skip hk h (by simp [Region.wanted, hg, hy])
      · exact skip hk h (by simp [Region.wanted, hg, hy])
      · exact dOp_of ho (by simp [Region.wanted, hg, hy]) (ex1_ok hT hk h hN)
theorem opsR_ok (hT : ∀ e ∈ tb.ents, e.Sound P) {ops : Array Oper} {K : St → Option R} {x : R} {N : Act → World → Prop} (hN : ∀ s', K s' = some x → ∀ G' a' w', Rel w₀ G₀ hp₀ G' s' a' w' → N a' w') :
    ∀ (l : List Oper) (i : Nat) (s : St) (G : Gh) (a : Act) (w : World), (∀ j, j < l.length → ops[i + j]? = l[j]?) → opsR P tb ops l s K = some x → Rel w₀ G₀ hp₀ G s a w → dOps P ops N (List.range' i l.length) a w
  | [], i, s, G, a, w, _, h, hr => hN s h G a w hr
  | o :: l, i, s, G, a, w, hl, h, hr => by
    simp only [List.length_cons, List.range'_succ, dOps]
    exact op1_ok hT hr (by have := hl 0 (by simp); simpa using this) h (fun s' h' G' a' w' hr' => opsR_ok hT hN l (i + 1) s' G' a' w' (fun j hj => by have := hl (j + 1) (by simp; omega); simpa [Nat.add_assoc, Nat.add_comm 1 j] using this) h' hr')
end
end Go.Sym
/- A region that draws its order, with what is emitted. -/
namespace Go.Sym
open Go.RowKit
variable [LC]

def lookK : List (Nat × Bool) → Nat → Option Bool
  | [], _ => none
  | (k, v) :: r, i => bif Nat.beq k i then some v else lookK r i
def rsIx (t : Nat) : List HR → Nat → Option Nat
  | [], _ => none
  | r :: rs, j => bif Nat.beq r.dst t then some j else rsIx t rs (j + 1)
def knPick (pred : List Nat) (Rs : List HR) (kn : List (Nat × Bool)) (op : Op) : Option Bool :=
  match op with
  | .pick (.tmp c) _ _ => match rsIx c Rs 0 with
    | some j => bif memN pred j then lookK kn j else none
    | none => none
  | _ => none
def areqK (P : Program) (tb : Tb) (t : St) (pred : List Nat) (Rs : List HR) (kn : List (Nat × Bool)) (op : Op) : Option Rq :=
  match knPick pred Rs kn op with
  | some d => some (.tot (.b d))
  | none => areq P tb t op
def exH {R : Type} (P : Program) (tb : Tb) (t : St) (pred : List Nat) (Rs : List HR) (kn : List (Nat × Bool)) (o : Oper) (K : AV → List (Nat × Box) → Option R) : Option R :=
  match areqK P tb t pred Rs kn o.op with
  | some q => q.K fun d => match aadd P t d o with
    | some (_, v, new) => K v new
    | none => none
  | none => none
def isBool : AV → Bool
  | .bool _ => true
  | _ => false
def addK (pred : List Nat) (Rs : List HR) (j : Nat) (d : Bool) (kn : List (Nat × Bool)) : List (Nat × Bool) := match Rs[j]? with
  | some r => bif memN pred j && isBool r.v then (j, d) :: kn else kn
  | none => kn
def opH {R : Type} (P : Program) (tb : Tb) (ops : Array Oper) (t : St) (pred : List Nat) (Rs : List HR) (kn : List (Nat × Bool)) (o : Oper) (K : AV → List (Nat × Box) → List (Nat × Bool) → Option R) : Option R :=
  match o.guard with
  | none => exH P tb t pred Rs kn o fun v new => K v new kn
  | some (j, want) => match guardOf ops t j with
    | none => none
    | some none => K (.val undef) [] kn
    | some (some b) => match (bif memN pred j then lookK kn j else none) with
      | some d => bif d == want then (exH P tb t pred Rs kn o fun v new => K v new kn) else K (.val undef) [] kn
      | none => bif b then (bif want then (exH P tb t pred Rs (addK pred Rs j true kn) o fun v new => K v new (addK pred Rs j true kn)) else K (.val undef) [] (addK pred Rs j true kn))
        else (bif want then K (.val undef) [] (addK pred Rs j false kn) else (exH P tb t pred Rs (addK pred Rs j false kn) o fun v new => K v new (addK pred Rs j false kn)))
def headR {R : Type} (P : Program) (tb : Tb) (ops : Array Oper) (s : St) (K : List HR → List (Nat × Bool) → Option R) : List Oper → Nat → List HR → List (Nat × Bool) → Option R
  | [], _, Rs, kn => K Rs kn
  | o :: l, i, Rs, kn => match o.dst, predsOf Rs o.after.toList with
    | some d, some pred => bif Nat.blt d s.n && noRange (s.nx + 16 * d) s.hp && freshDst d Rs && readsFine pred (readsOf ops o) Rs 0 && writesFine ops d pred i then
        opH P tb ops (addSel pred Rs 0 s) pred Rs kn o fun v new kn' => headR P tb ops s K l (i + 1) (Rs ++ [⟨d, v, new, pred⟩]) kn'
      else none
    | _, _ => none
/-- where the tail begins -/
def chainStart : List Oper → Nat → Nat
  | [], n => n
  | o :: l, n => bif Nat.ble 2 n && waitsOn o (n - 2) then chainStart l (n - 1) else n - 1
def findTail (ops : Array Oper) : List Oper → Nat → Nat
  | [], n => n
  | o :: l, n => bif reachAll ops o n then n else findTail ops l (n + 1)
def headLen (ops : Array Oper) : Nat := findTail ops (ops.toList.drop (chainStart ops.toList.reverse ops.toList.length)) (chainStart ops.toList.reverse ops.toList.length)
/-- what is known of guards -/
def knows (Rs : List HR) (kn : List (Nat × Bool)) : List (Nat × Bool) → St → St
  | [], s => s
  | (j, _) :: l, s => match lookK kn j, Rs[j]? with
    | some d, some r => (knows Rs kn l s).know (.tmp r.dst) d
    | _, _ => knows Rs kn l s
def drawR {R : Type} (P : Program) (tb : Tb) (ops : Array Oper) (s : St) (K : St → Option R) : Option R :=
  bif edgesFine ops.toList 0 && tailFine ops (headLen ops) && Nat.ble (headLen ops) ops.toList.length then
    headR P tb ops s (fun Rs kn => opsR P tb ops (ops.toList.drop (headLen ops)) (knows Rs kn kn (addAll Rs s)) K) (ops.toList.take (headLen ops)) 0 [] []
  else none

section
variable {P : Program} {w₀ : World} {G₀ : Gh} {hp₀ : List (Nat × Box)} {G : Gh} {a : Act} {w : World} {R : Type} {tb : Tb} {s : St}
def KnOk (Rs : List HR) (kn : List (Nat × Bool)) : Prop := ∀ j d, lookK kn j = some d → ∃ r, Rs[j]? = some r ∧ r.v = .bool d
omit [LC] in
theorem addK_ok {pred : List Nat} {Rs : List HR} {j : Nat} {d : Bool} {kn : List (Nat × Bool)} (hk : KnOk Rs kn) (h : ∀ r, Rs[j]? = some r → memN pred j = true → isBool r.v = true → r.v = .bool d) : KnOk Rs (addK pred Rs j d kn) := by
  unfold addK
  split
  · rename_i r hr
    cases hb : memN pred j && isBool r.v
    · exact hk
    · simp only [Bool.and_eq_true] at hb
      intro j' d' h'
      simp only [cond_true, lookK] at h'
      cases hq : Nat.beq j j'
      · rw [hq] at h'; exact hk j' d' h'
      · rw [hq] at h'; simp only [cond_true, Option.some.injEq] at h'; subst h'
        have := Nat.eq_of_beq_eq_true hq; subst this
        exact ⟨r, hr, h r hr hb.1 hb.2⟩
  · exact hk
omit [LC] in
theorem rsIx_spec {t : Nat} : ∀ {rs : List HR} {j0 j : Nat}, rsIx t rs j0 = some j → ∃ k r, j = j0 + k ∧ rs[k]? = some r ∧ r.dst = t
  | [], j0, j, h => by cases h
  | r :: rs, j0, j, h => by
    simp only [rsIx] at h
    cases hq : Nat.beq r.dst t
    · rw [hq] at h
      obtain ⟨k, r', h1, h2, h3⟩ := rsIx_spec h
      exact ⟨k + 1, r', by omega, by simpa using h2, h3⟩
    · rw [hq] at h; simp only [cond_true, Option.some.injEq] at h
      exact ⟨0, r, by omega, by simp, Nat.eq_of_beq_eq_true hq⟩
theorem exH_ok (hT : ∀ e ∈ tb.ents, e.Sound P) {t : St} {pred : List Nat} {Rs : List HR} {kn : List (Nat × Bool)} {o : Oper} {K : AV → List (Nat × Box) → Option R} {x : R} (hkn : KnOk Rs kn) (hv : ∀ j r, memN pred j = true → Rs[j]? = some r → look t.fr r.dst = some r.v)
    (h : exH P tb t pred Rs kn o K = some x) : ∃ ps d v new, aadd P t d o = some (ps, v, new) ∧ Alls ps ∧ K v new = some x := by
  unfold exH at h
  split at h
  · rename_i q hq
    obtain ⟨d, h1, h2⟩ := Rq.K_some h
    split at h2
    · rename_i ps v new ha
      refine ⟨ps, d, v, new, ha, ?_, h2⟩
      unfold areqK at hq
      split at hq
      · rename_i d' hd
        simp only [Option.some.injEq] at hq; subst hq
        have h1 : d = .b d' := h1
        subst h1
        unfold knPick at hd
        split at hd
        · rename_i c y z hop
          split at hd
          · rename_i j hj
            obtain ⟨k, r, rfl, i1, i2⟩ := rsIx_spec hj
            rw [Nat.zero_add] at hd
            cases hm : memN pred k <;> rw [hm] at hd <;> simp only [cond_true, cond_false, reduceCtorEq] at hd
            obtain ⟨r', j1, j2⟩ := hkn k d' hd
            rw [i1] at j1; have := Option.some.inj j1; subst this
            have hl := hv k r hm i1
            rw [i2, j2] at hl
            unfold aadd at ha
            rw [hop] at ha
            have hev : t.ev (.tmp c) = some (.bool d') := hl
            simp only [aval, hev] at ha
            split at ha
            · rename_i ps1 v1 e
              simp only [Option.some.injEq, Prod.mk.injEq] at ha; obtain ⟨rfl, _, _⟩ := ha
              split at e
              · simp only [Option.some.injEq, Prod.mk.injEq] at e; obtain ⟨rfl, _⟩ := e
                exact ⟨trivial, trivial⟩
              · cases e
            · unfold anew at ha
              rw [hop] at ha
              cases ha
          · cases hd
        · cases hd
      · exact areq_add hT hq h1 ha
    · cases h2
  · cases h
theorem opH_ok (hT : ∀ e ∈ tb.ents, e.Sound P) {ops : Array Oper} {t : St} {pred : List Nat} {Rs : List HR} {kn : List (Nat × Bool)} {o : Oper} {K : AV → List (Nat × Box) → List (Nat × Bool) → Option R} {x : R} (hkn : KnOk Rs kn)
    (hv : ∀ j r, memN pred j = true → Rs[j]? = some r → look t.fr r.dst = some r.v) (hd : ∀ (j : Nat) (r : HR), Rs[j]? = some r → ∃ oj : Oper, ops[j]? = some oj ∧ oj.dst = some r.dst)
    (h : opH P tb ops t pred Rs kn o K = some x) : ∃ ps, ∃ c : Dec, ∃ v new kn', astepH P ops t c o = some (ps, v, new) ∧ Alls ps ∧ KnOk Rs kn' ∧ K v new kn' = some x := by
  unfold opH at h
  unfold astepH
  split at h
  · rename_i hg
    obtain ⟨ps, d, v, new, h1, h2, h3⟩ := exH_ok hT hkn hv h
    exact ⟨ps, (false, d), v, new, kn, by rw [hg]; exact h1, h2, hkn, h3⟩
  · rename_i j want hg
    split at h
    · cases h
    · rename_i hgo
      exact ⟨[], (false, .none), _, _, kn, by simp [hg, hgo], trivial, hkn, h⟩
    · rename_i b hgo
      have hb : ∀ r, Rs[j]? = some r → memN pred j = true → isBool r.v = true → r.v = .bool b := fun r hr hm hi => by
        obtain ⟨oj, k1, k2⟩ := hd j r hr
        have hl := hv j r hm hr
        unfold guardOf at hgo
        simp only [k1, k2, hl] at hgo
        cases hrv : r.v <;> rw [hrv] at hi <;> simp only [isBool, Bool.false_eq_true] at hi
        rw [hrv] at hgo
        simp only [Option.some.injEq] at hgo; subst hgo; rfl
      split at h
      · rename_i d hkd
        cases hm : memN pred j <;> rw [hm] at hkd <;> simp only [cond_true, cond_false, reduceCtorEq] at hkd
        obtain ⟨r, i1, i2⟩ := hkn j d hkd
        have hbd : b = d := by
          have := hb r i1 hm (by rw [i2]; rfl)
          rw [i2] at this; simpa using this.symm
        cases hw : d == want <;> rw [hw] at h <;> simp only [cond_true, cond_false] at h
        · exact ⟨[b = d], (d, .none), _, _, kn, by simp [hg, hgo, hw], ⟨hbd, trivial⟩, hkn, h⟩
        · obtain ⟨ps, d', v, new, h1, h2, h3⟩ := exH_ok hT hkn hv h
          exact ⟨(b = d) :: ps, (d, d'), v, new, kn, by simp [hg, hgo, hw, h1], ⟨hbd, h2⟩, hkn, h3⟩
      · have hkn' : ∀ d, b = d → KnOk Rs (addK pred Rs j d kn) := fun d e => addK_ok hkn (by subst e; exact hb)
        cases b <;> cases want <;> simp only [cond_true, cond_false] at h
        · obtain ⟨ps, d', v, new, h1, h2, h3⟩ := exH_ok hT (hkn' false rfl) hv h
          exact ⟨(false = false) :: ps, (false, d'), v, new, _, by simp [hg, hgo, h1], ⟨rfl, h2⟩, hkn' false rfl, h3⟩
        · exact ⟨[false = false], (false, .none), _, _, _, by simp [hg, hgo], ⟨rfl, trivial⟩, hkn' false rfl, h⟩
        · exact ⟨[true = true], (true, .none), _, _, _, by simp [hg, hgo], ⟨rfl, trivial⟩, hkn' true rfl, h⟩
        · obtain ⟨ps, d', v, new, h1, h2, h3⟩ := exH_ok hT (hkn' true rfl) hv h
          exact ⟨(true = true) :: ps, (true, d'), v, new, _, by simp [hg, hgo, h1], ⟨rfl, h2⟩, hkn' true rfl, h3⟩
omit [LC] in
theorem addSel_out {sel : List Nat} {d : Nat} : ∀ {rs : List HR} {j : Nat} {t : St}, (∀ r ∈ rs, r.dst ≠ d) → look (addSel sel rs j t).fr d = look t.fr d
  | [], _, _, _ => rfl
  | r :: rs, j, t, h => by
    simp only [addSel]
    rw [addSel_out (fun r' hr' => h r' (List.mem_cons_of_mem _ hr'))]
    cases memN sel j
    · rfl
    · simp only [cond_true, St.addR, look]
      have := h r List.mem_cons_self
      cases hq : Nat.beq r.dst d
      · rfl
      · exact absurd (Nat.eq_of_beq_eq_true hq) this
omit [LC] in
theorem addSel_in {sel : List Nat} : ∀ {rs : List HR} {j k : Nat} {t : St} {r : HR}, rs[k]? = some r → memN sel (j + k) = true → (∀ k' r', k < k' → rs[k']? = some r' → r'.dst ≠ r.dst) → look (addSel sel rs j t).fr r.dst = some r.v
  | [], _, _, _, _, h, _, _ => by simp at h
  | r0 :: rs, j, 0, t, r, h, hm, hd => by
    simp only [List.getElem?_cons_zero, Option.some.injEq] at h; subst h
    simp only [addSel]
    rw [addSel_out (fun r' hr' => by
      obtain ⟨k, hk⟩ := List.getElem?_of_mem hr'
      exact hd (k + 1) r' (by omega) (by simpa using hk))]
    rw [Nat.add_zero] at hm
    rw [hm]
    simp [St.addR, look]
  | r0 :: rs, j, k + 1, t, r, h, hm, hd => by
    simp only [addSel]
    exact addSel_in (k := k) (by simpa using h) (by rw [show j + 1 + k = j + (k + 1) by omega]; exact hm) (fun k' r' hk hr' => hd (k' + 1) r' (by omega) (by simpa using hr'))
omit [LC] in
theorem addAll_out {d : Nat} : ∀ {rs : List HR} {t : St}, (∀ r ∈ rs, r.dst ≠ d) → look (addAll rs t).fr d = look t.fr d
  | [], _, _ => rfl
  | r :: rs, t, h => by
    simp only [addAll]
    rw [addAll_out (fun r' hr' => h r' (List.mem_cons_of_mem _ hr'))]
    show (bif Nat.beq r.dst d then some r.v else look t.fr d) = _
    cases hb : Nat.beq r.dst d
    · rfl
    · exact absurd (Nat.eq_of_beq_eq_true hb) (h r List.mem_cons_self)
omit [LC] in
theorem addAll_in : ∀ {rs : List HR} {k : Nat} {t : St} {r : HR}, rs[k]? = some r → (∀ k' r', k < k' → rs[k']? = some r' → r'.dst ≠ r.dst) → look (addAll rs t).fr r.dst = some r.v
  | [], _, _, _, h, _ => by simp at h
  | r0 :: rs, 0, t, r, h, hd => by
    simp only [List.getElem?_cons_zero, Option.some.injEq] at h; subst h
    simp only [addAll]
    rw [addAll_out (fun r' hr' => by
      obtain ⟨k, hk⟩ := List.getElem?_of_mem hr'
      exact hd (k + 1) r' (by omega) (by simpa using hk))]
    show (bif Nat.beq r0.dst r0.dst then some r0.v else look t.fr r0.dst) = _
    simp
  | r0 :: rs, k + 1, t, r, h, hd => by
    simp only [addAll]
    exact addAll_in (k := k) (by simpa using h) (fun k' r' hk hr' => hd (k' + 1) r' (by omega) (by simpa using hr'))
theorem knows_ok {Rs : List HR} (hdis : ∀ (k k' : Nat) (r r' : HR), k < k' → Rs[k]? = some r → Rs[k']? = some r' → r'.dst ≠ r.dst) (hr : Rel w₀ G₀ hp₀ G (addAll Rs s) a w) {kn : List (Nat × Bool)} (hkn : KnOk Rs kn) : ∀ {l : List (Nat × Bool)}, Rel w₀ G₀ hp₀ G (knows Rs kn l (addAll Rs s)) a w
  | [] => hr
  | (j, _) :: l => by
    have ih := knows_ok hdis hr hkn (l := l)
    unfold knows
    split
    · rename_i d r h0 h1
      obtain ⟨r', i1, h2⟩ := hkn j d h0
      rw [h1] at i1; have := Option.some.inj i1; subst this
      refine ih.know ?_
      obtain ⟨v, v1, v2⟩ := hr.frame r.dst _ (addAll_in h1 (fun k' r' hk hr' => hdis j k' r r' hk h1 hr'))
      rw [h2] at v2
      have v2 : v = .bool d := v2
      subst v2
      show a.tmps.getD r.dst undef = _
      rw [Array.getD_eq_getD_getElem?, v1]; rfl
    · exact ih
theorem headR_ok (hT : ∀ e ∈ tb.ents, e.Sound P) {ops : Array Oper} {K : List HR → List (Nat × Bool) → Option R} {x : R} : ∀ (l : List Oper) (i : Nat) (Rs : List HR) (kn : List (Nat × Bool)), (∀ j, j < l.length → ops[i + j]? = l[j]?) → Rs.length = i → KnOk Rs kn →
    (∀ j o, j < i → ops[j]? = some o → HOk P ops s Rs j o) → headR P tb ops s K l i Rs kn = some x → ∃ Rs' kn', K Rs' kn' = some x ∧ KnOk Rs' kn' ∧ Rs'.length = i + l.length ∧ ∀ j o, j < i + l.length → ops[j]? = some o → HOk P ops s Rs' j o
  | [], i, Rs, kn, _, hlen, hkn, hH, h => ⟨Rs, kn, h, hkn, hlen, hH⟩
  | o :: l, i, Rs, kn, hl, hlen, hkn, hH, h => by
    have ho : ops[i]? = some o := by have := hl 0 (by simp); simpa using this
    have hops : ∀ j, j < i → ∃ oj, ops[j]? = some oj := fun j hj => by
      have : i < ops.size := (Array.getElem?_eq_some_iff.1 ho).1
      exact ⟨ops[j], by simp [show j < ops.size by omega]⟩
    simp only [headR] at h
    split at h
    · rename_i d pred hd hp
      cases hb : Nat.blt d s.n && noRange (s.nx + 16 * d) s.hp && freshDst d Rs && readsFine pred (readsOf ops o) Rs 0 && writesFine ops d pred i <;> rw [hb] at h <;> simp only [cond_true, cond_false, reduceCtorEq] at h
      simp only [Bool.and_eq_true] at hb
      obtain ⟨⟨⟨⟨b1, b2⟩, b3⟩, b4⟩, b5⟩ := hb
      have hdst : ∀ (j : Nat) (r : HR), Rs[j]? = some r → ∃ oj : Oper, ops[j]? = some oj ∧ oj.dst = some r.dst := fun j r hr => by
        have hj : j < i := by have := (List.getElem?_eq_some_iff.1 hr).1; omega
        obtain ⟨oj, hoj⟩ := hops j hj
        obtain ⟨r', _, _, k1, k2, _⟩ := hH j oj hj hoj
        rw [hr] at k1; have := Option.some.inj k1; subst this
        exact ⟨oj, hoj, k2⟩
      have hdis : ∀ (k k' : Nat) (r r' : HR), k < k' → Rs[k]? = some r → Rs[k']? = some r' → r'.dst ≠ r.dst := fun k k' r r' hkk hr hr' e => by
        have hk' : k' < i := by have := (List.getElem?_eq_some_iff.1 hr').1; omega
        obtain ⟨oj, hoj⟩ := hops k' hk'
        obtain ⟨r2, _, _, k1, _, _, _, _, k6, _⟩ := hH k' oj hk' hoj
        rw [hr'] at k1; have := Option.some.inj k1; subst this
        exact freshDst_iff.1 k6 r (List.mem_of_getElem? (i := k) (by rw [List.getElem?_take, if_pos hkk]; exact hr)) e.symm
      obtain ⟨ps, c, v, new, kn', h1, h2, h3, h4⟩ := opH_ok hT hkn (fun j r hm hr => addSel_in (k := j) hr (by rw [Nat.zero_add]; exact hm) (fun k' r' hk hr' => hdis j k' r r' hk hr hr')) hdst h
      obtain ⟨Rs', kn2, k1, kk, k2, k3⟩ := headR_ok hT l (i + 1) (Rs ++ [⟨d, v, new, pred⟩]) kn' (fun j hj => by have := hl (j + 1) (by simp; omega); simpa [Nat.add_assoc, Nat.add_comm 1 j] using this) (by simp [hlen])
        (fun j d' hj => by
          obtain ⟨r, i1, i2⟩ := h3 j d' hj
          exact ⟨r, by rw [List.getElem?_append_left (List.getElem?_eq_some_iff.1 i1).1]; exact i1, i2⟩)
        (fun j oj hj hoj => by
          by_cases hji : j < i
          · obtain ⟨r, ps', c', j1, j2, j3, j4, j5, j6, j7, j8, j9, j10⟩ := hH j oj hji hoj
            have ht : (Rs ++ [(⟨d, v, new, pred⟩ : HR)]).take j = Rs.take j := by rw [List.take_append_of_le_length (by omega)]
            exact ⟨r, ps', c', by rw [List.getElem?_append_left (by omega)]; exact j1, j2, j3, j4, by rw [ht]; exact j5, by rw [ht]; exact j6, by rw [ht]; exact j7, j8, by rw [ht]; exact j9, j10⟩
          · have : j = i := by omega
            subst this
            rw [ho] at hoj; have := Option.some.inj hoj; subst this
            have ht : (Rs ++ [(⟨d, v, new, pred⟩ : HR)]).take j = Rs := by rw [← hlen, List.take_left]
            exact ⟨⟨d, v, new, pred⟩, ps, c, by rw [← hlen]; simp, hd, Nat.lt_of_lt_of_le (Nat.lt_succ_self d) (Nat.le_of_ble_eq_true b1), b2, by rw [ht]; exact hp, by rw [ht]; exact b3, by rw [ht]; exact b4, b5, by rw [ht]; exact h1, h2⟩)
        h4
      exact ⟨Rs', kn2, k1, kk, by rw [k2, List.length_cons]; omega, fun j oj hj => k3 j oj (by rw [List.length_cons] at hj; omega)⟩
    · cases h
theorem tail_ok (hT : ∀ e ∈ tb.ents, e.Sound P) {ops : Array Oper} {K : St → Option R} {x : R} {n : Nat} {N : Act → World → Prop} (he : edgesFine ops.toList 0 = true) (ht : tailFine ops n = true) (hN : ∀ s', K s' = some x → ∀ G' a' w', Rel w₀ G₀ hp₀ G' s' a' w' → N a' w') :
    ∀ (l : List Oper) (m : Nat), n ≤ m → ops.toList.drop m = l → m ≤ ops.size → ∀ (s : St) (G : Gh) (a : Act) (w : World) (listed : Array Bool), opsR P tb ops l s K = some x → Rel w₀ G₀ hp₀ G s a w → Upto ops m listed → dAny P ops N (ops.size - m) listed a w
  | [], m, hn, hl, hm, s, G, a, w, listed, h, hr, hu => by
    have : m = ops.size := by
      have := congrArg List.length hl
      simp at this; omega
    subst this
    exact tail_end hu (hN s h G a w hr)
  | o :: l, m, hn, hl, hm, s, G, a, w, listed, h, hr, hu => by
    have hlt : m < ops.size := by
      have := congrArg List.length hl
      simp at this; omega
    have ho : ops[m]? = some o := by
      have := congrArg (fun l => l[0]?) hl
      simpa using this
    refine tail_one he ht hn hlt hu (op1_ok hT hr ho h (fun s' h' G' a' w' hr' listed' hu' => ?_))
    exact tail_ok hT he ht hN l (m + 1) (by omega) (by rw [← List.drop_drop, hl]; rfl) (by omega) s' G' a' w' listed' h' hr' hu'
theorem drawR_ok (hT : ∀ e ∈ tb.ents, e.Sound P) (hm : P.follows .mixedOrders = true) {ops : Array Oper} {K : St → Option R} {x : R} (h : drawR P tb ops s K = some x) {N : Act → World → Prop} (hN : ∀ s', K s' = some x → ∀ G' a' w', Rel w₀ G₀ hp₀ G' s' a' w' → N a' w')
    (hr : Rel w₀ G₀ hp₀ G s a w) (id : Nat) (b : Frame) (k : List Item) (cs : List Frame) (hk : b.kind = .normal) :
    ∃ a' w', N a' w' ∧ Steps P (lone (b.atR a (.code (.region id ops true) :: k)) cs w) (lone (b.atR a' k) cs w') := by
  unfold drawR at h
  generalize headLen ops = n at h
  cases hb : edgesFine ops.toList 0 && tailFine ops n && Nat.ble n ops.toList.length <;> rw [hb] at h <;> simp only [cond_true, cond_false, reduceCtorEq] at h
  simp only [Bool.and_eq_true] at hb
  obtain ⟨⟨b1, b2⟩, b3⟩ := hb
  have hn : n ≤ ops.size := by have := Nat.le_of_ble_eq_true b3; simpa using this
  have hlen : (ops.toList.take n).length = n := by simp; omega
  obtain ⟨Rs, kn, k1, kk, k2, k3⟩ := headR_ok hT (ops.toList.take n) 0 [] [] (fun j hj => by
    rw [hlen] at hj
    rw [List.getElem?_take, if_pos hj, Nat.zero_add]; simp) rfl (fun j d h => by cases h) (fun j o hj => by omega) h
  rw [Nat.zero_add, hlen] at k2 k3
  have hdis : ∀ (k k' : Nat) (r r' : HR), k < k' → Rs[k]? = some r → Rs[k']? = some r' → r'.dst ≠ r.dst := fun k k' r r' hkk hr hr' e => by
    have hk' : k' < n := by have := (List.getElem?_eq_some_iff.1 hr').1; omega
    obtain ⟨oj, hoj⟩ : ∃ oj, ops[k']? = some oj := ⟨ops[k'], by simp [show k' < ops.size by omega]⟩
    obtain ⟨r2, _, _, j1, _, _, _, _, j6, _⟩ := k3 k' oj hk' hoj
    rw [hr'] at j1; have := Option.some.inj j1; subst this
    exact freshDst_iff.1 j6 r (List.mem_of_getElem? (i := k) (by rw [List.getElem?_take, if_pos hkk]; exact hr)) e.symm
  exact draw_ok hn b1 b2 hm k2 k3 (fun G a w listed hr' hu => tail_ok hT b1 b2 hN _ n (Nat.le_refl _) rfl hn _ G a w listed k1 (knows_ok hdis hr' kk) hu) hr id b k cs hk
end
end Go.Sym
/- The whole of a body: what is emitted. -/
namespace Go.Sym
open Go.RowKit
variable [LC]

def child (i : Nat) (c : Code) : Code := match c with
  | .seq a b => match i with
    | 0 => a
    | _ => b
  | .cond _ a b => match i with
    | 0 => a
    | _ => b
  | .block _ a => a
  | .loop a => a
  | .scope a => a
  | .rangeFunc _ _ a b => match i with
    | 0 => a
    | _ => b
  | c => c
/-- a part of a body, by the way to it, backwards -/
def sub (body : Code) : List Nat → Code
  | [] => body
  | i :: p => child i (sub body p)
structure PIt where
  kd : Nat
  path : List Nat
  it : Item
def itemAt (body : Code) (kd : Nat) (p : List Nat) : Item := match kd with
  | 0 => .code (sub body p)
  | 1 => match sub body p with
    | .block id _ => .inBlock id
    | c => .code c
  | 2 => match sub body p with
    | .loop x => .inLoop x
    | c => .code c
  | 3 => match sub body p with
    | .scope x => .inScope x
    | c => .code c
  | _ => .beginRound
def PIt.Ok (body : Code) (i : PIt) : Prop := i.it = itemAt body i.kd i.path
abbrev PKey := List (Nat × List Nat)
def itemsAt (body : Code) : PKey → List PIt
  | [] => []
  | (kd, p) :: r => ⟨kd, p, itemAt body kd p⟩ :: itemsAt body r
def items : List PIt → List Item
  | [] => []
  | i :: r => i.it :: items r
def eqKey : PKey → List PIt → Bool
  | [], [] => true
  | (kd, p) :: r, i :: k => Nat.beq kd i.kd && eqNs p i.path && eqKey r k
  | _, _ => false
omit [LC] in
theorem eqKey_items {body : Code} : ∀ {key : PKey} {k : List PIt}, eqKey key k = true → (∀ i ∈ k, i.Ok body) → items (itemsAt body key) = items k
  | [], [], _, _ => rfl
  | (kd, p) :: r, ⟨kd', p', it⟩ :: k, h, hk => by
    simp only [eqKey, Bool.and_eq_true] at h
    obtain ⟨⟨h1, h2⟩, h3⟩ := h
    have h1 := Nat.eq_of_beq_eq_true h1
    have h2 := eqNs_eq h2
    subst h1 h2
    have ho : it = itemAt body kd p := hk _ List.mem_cons_self
    simp only [itemsAt, items]
    rw [eqKey_items h3 (fun i hi => hk i (List.mem_cons_of_mem _ hi)), ho]
  | [], _ :: _, h, _ => by cases h
  | _ :: _, [], h, _ => by cases h
omit [LC] in
theorem itemsAt_ok {body : Code} : ∀ {key : PKey}, ∀ i ∈ itemsAt body key, i.Ok body
  | [], i, h => by cases h
  | (kd, p) :: r, i, h => by
    rcases List.mem_cons.1 h with rfl | h
    · rfl
    · exact itemsAt_ok i h
omit [LC] in
theorem itemAt_code {body : Code} {kd : Nat} {p : List Nat} {c : Code} (h : Item.code c = itemAt body kd p) : sub body p = c := by
  unfold itemAt at h
  split at h
  · injection h with h; exact h.symm
  · split at h
    · cases h
    · injection h with h; exact h.symm
  · split at h
    · cases h
    · injection h with h; exact h.symm
  · split at h
    · cases h
    · injection h with h; exact h.symm
  · cases h
omit [LC] in
theorem itemAt_loop {body : Code} {kd : Nat} {p : List Nat} {c : Code} (h : Item.inLoop c = itemAt body kd p) : sub body p = .loop c := by
  unfold itemAt at h
  split at h
  · cases h
  · split at h <;> cases h
  · split at h
    · rename_i e; injection h with h; subst h; exact e
    · cases h
  · split at h <;> cases h
  · cases h
def exitP (id : Nat) : List PIt → Option (List PIt)
  | [] => none
  | i :: k => match i.it with
    | .inBlock id' => if id' == id then some k else exitP id k
    | _ => exitP id k
omit [LC] in
theorem exitP_some {id : Nat} : ∀ {k k' : List PIt}, exitP id k = some k' → exitTo id (items k) = some (items k') ∧ ∀ i ∈ k', i ∈ k
  | [], _, h => by cases h
  | ⟨kd, p, it⟩ :: k, k', h => by
    simp only [exitP] at h
    split at h
    · rename_i id'
      split at h
      · rename_i he
        simp only [Option.some.injEq] at h; subst h
        exact ⟨by simp only [items, exitTo]; rw [if_pos he], fun i hi => List.mem_cons_of_mem _ hi⟩
      · rename_i he
        obtain ⟨h1, h2⟩ := exitP_some h
        exact ⟨by simp only [items, exitTo]; rw [if_neg he]; exact h1, fun i hi => List.mem_cons_of_mem _ (h2 i hi)⟩
    · rename_i hne
      obtain ⟨h1, h2⟩ := exitP_some h
      refine ⟨?_, fun i hi => List.mem_cons_of_mem _ (h2 i hi)⟩
      (try simp only at hne)
      simp only [items]
      cases it <;> first
        | (exfalso; exact hne _ rfl)
        | (simp only [exitTo]; exact h1)

/- results -/
def aresult (P : Program) (s : St) : ResultVar → Option AV
  | .tmp t => look s.fr t
  | .cell t T => match look s.fr t with
    | some (.ptr b off) => match look s.hp b with
      | some (.cells cs _) => aload P T cs off
      | _ => none
    | some (.oel k sz 0 0) => match look s.hp k, tAgg P T, tSize P T with
      | some (.row τ l _), some true, some _ => bif τ.is1 && Nat.beq sz 1 then some (.arr τ l) else none
      | _, _, _ => none
    | _ => none
/-- arrays that are handed back have their length -/
def resQ (P : Program) (s : St) : ResultVar → Bool
  | .tmp _ => true
  | .cell t T => match look s.fr t with
    | some (.oel k _ 0 0) => match look s.hp k, tSize P T with
      | some (.row _ l _), some n => decide (l.length = n)
      | _, _ => true
    | _ => true
def resQs (P : Program) (s : St) : List ResultVar → Bool
  | [] => true
  | x :: xs => resQ P s x && resQs P s xs
def aresults (P : Program) (s : St) : List ResultVar → Option (List AV)
  | [] => some []
  | x :: xs => match aresult P s x with
    | some v => match aresults P s xs with
      | some vs => some (v :: vs)
      | none => none
    | none => none
def aret (P : Program) (fn : Func) (s : St) : Option AV :=
  match aresults P s fn.results.toList with
  | some vs => match vs with
    | [v] => some v
    | vs => some (.tup vs)
  | none => none
def coR (bs : List (Nat × BPt)) : List ResultVar → List Pt → St → St
  | [], _, s => s
  | x :: xs, ps, s => match ps with
    | [] => s
    | p :: ps => match x with
      | .tmp t => coR bs xs ps (coF bs [(t, p)] s)
      | .cell t _ => match look s.fr t with
        | some (.ptr b off) => coR bs xs ps (coB1 bs b [p] off s)
        | _ => coR bs xs ps s
def ptsOf : Pt → List Pt
  | .tup ps => ps
  | p => [p]
def finV (v : AV) (ids : NM) (p : Pt) (hp : List (Nat × BPt)) (s : St) : Option (p.den × bden hp) :=
  match p.get v ids with
  | some (d, nm) => match bget s.hp hp nm with
    | some (d', nm') => bif distinctOld nm' && allIn nm' hp then some (d, d') else none
    | none => none
  | none => none
def finOne (P : Program) (fn : Func) (ids : NM) (rv : Option AV) (p : Pt) (hp : List (Nat × BPt)) (s : St) : Option (p.den × bden hp) :=
  match rv with
  | some v => finV v ids p hp (coB hp ids hp s)
  | none => match aret P fn (coR hp fn.results.toList (ptsOf p) (coB hp ids hp s)) with
    | some v => finV v ids p hp (coR hp fn.results.toList (ptsOf p) (coB hp ids hp s))
    | none => none
def finQ (P : Program) (fn : Func) (ids : NM) (rv : Option AV) (p : Pt) (hp : List (Nat × BPt)) (s : St) : Bool :=
  match rv with
  | some _ => true
  | none => resQs P (coR hp fn.results.toList (ptsOf p) (coB hp ids hp s)) fn.results.toList
def RS.fin (P : Program) (fn : Func) (ids : NM) (rv : Option AV) (s : St) : {α : Type} → RS α → Option α
  | _, .one p hp _ fro _ => bif finQ P fn ids rv p hp s then (match finOne P fn ids rv p hp s with
    | some y => some (fro y)
    | none => none) else none
  | _, .two l r => match l.fin P fn ids rv s with
    | some a => some (.inl a)
    | none => match r.fin P fn ids rv s with
      | some b => some (.inr b)
      | none => none
structure Lab (R : Type) where
  key : PKey
  ls : LS
  F : ls.den → Option R
def findLab {R : Type} (k : List PIt) : List (Lab R) → Option (Lab R)
  | [] => none
  | l :: ls => bif eqKey l.key k then some l else findLab k ls
structure Cx : Type 1 where
  P : Program
  tb : Tb
  fn : Func
  f : FuncId
  ids : NM
  /-- a round: of which loop -/
  rd : Option Nat
  tags : List (List Nat × Nat)
def St.noDf (s : St) : Bool := match s.df with
  | [] => true
  | _ => false
def closeDf : List Nat → St → Option St
  | [], s => some { s with df := [] }
  | n :: ns, s => match look s.hp n with
    | some .dfr => closeDf ns { s with hp := (n, .dead) :: s.hp, df := ns }
    | _ => none
def isNo : Option Jmp → Bool
  | none => true
  | some _ => false
def endq (cx : Cx) {R : Type} (enc : RS R) (j : Option Jmp) (s : St) : Option R :=
  match cx.rd with
  | none => match closeDf s.df s with
    | some s' => enc.fin cx.P cx.fn cx.ids none s'
    | none => none
  | some m => bif s.noDf then
      (match look s.hp m with
      | some (.loop _ _ f n fr ps tag D) => enc.fin cx.P cx.fn cx.ids (some (.val (.bool (isNo j)))) { s with hp := (m, .loop (bif isNo j then .ready else .done) j f n fr ps tag D) :: s.hp }
      | _ => none)
    else none
def St.enterRF (s : St) (f : FuncId) (ps : List Tmp) (tag : Nat) (around : Option Nat) : Option St :=
  bif noRange s.nx s.hp then
    (match around with
    | none => some { s with hp := (s.nx, .loop .ready none f s.n s.fr ps tag (s.nx + 1)) :: (s.nx + 1, .dfr) :: s.hp, df := (s.nx + 1) :: s.df, nx := s.nx + 16 }
    | some m => match look s.hp m with
      | some (.loop _ _ _ _ _ _ _ D) => some { s with hp := (s.nx, .loop .ready none f s.n s.fr ps tag D) :: s.hp, nx := s.nx + 16 }
      | _ => none)
  else none
def rfCall (s : St) (ys : List AV) (d : D) : Option St := match d with
  | .mem names xs hp _ hp' =>
    bif distinctOld names && distinctNew names && noRange s.nx s.hp then
      (match viewHp (rho names) s.hp names, vws false [] (AV.rens (rho names) ys) xs with
      | some hpv, some _ => match vwHp hpv hp with
        | some _ => some { s with hp := backHp (back names hp' s.nx) hp' ++ (deads names ++ s.hp), nx := s.nx + 16 }
        | none => none
      | _, _ => none)
    else none
  | _ => none
def lookT (p : List Nat) : List (List Nat × Nat) → Option Nat
  | [] => none
  | (q, t) :: r => bif eqNs q p then some t else lookT p r
def notBusy : LoopState → Bool
  | .busy => false
  | _ => true
/-- what the call asks for -/
def rfAsk (cx : Cx) (p : List Nat) (g : Operand) (ps : List Tmp) (s : St) : Option (Rq × St × List AV) :=
  match lookT p cx.tags, s.ev g with
  | some tag, some (.fn (.func h) [] cap) => match s.enterRF cx.f ps tag cx.rd with
    | some s1 => match firstQ (callMQ s1 h (.yld s.nx :: cap)) cx.tb.ents with
      | some q => some (q, s1, .yld s.nx :: cap)
      | none => none
    | none => none
  | _, _ => none
def rfPre (cx : Cx) (p : List Nat) (g : Operand) (ps : List Tmp) (s : St) : Option St :=
  match lookT p cx.tags, s.ev g with
  | some tag, some (.fn (.func h) [] cap) => match s.enterRF cx.f ps tag cx.rd with
    | some s1 => match entFor (fun e => keyIs h e.key) cx.tb.ents with
      | some e => some (coB e.hp (nmH s1 e.hp (nmPs e.args (.yld s.nx :: cap))) e.hp (frzL (frzOfs e.args (.yld s.nx :: cap)) s))
      | none => none
    | none => none
  | _, _ => none
/-- behind the call -/
def rfGo {R : Type} (nl : Nat) (a : Rq × St × List AV) (K : Option Jmp → St → Option R) : Option R :=
  a.1.K fun d => match rfCall a.2.1 a.2.2 d with
    | some s3 => match look s3.hp nl with
      | some (.loop st pe _ _ _ _ _ _) => bif notBusy st then K pe { s3 with hp := (nl, .dead) :: s3.hp } else none
      | _ => none
    | none => none
/-- the whole statement: the pending jump, and the state behind it -/
def rfR (cx : Cx) {R : Type} (p : List Nat) (g : Operand) (ps : List Tmp) (s : St) (K : Option Jmp → St → Option R) : Option R :=
  match rfAsk cx p g ps s with
  | some a => rfGo s.nx a K
  | none => match rfPre cx p g ps s with
    | some s' => match rfAsk cx p g ps s' with
      | some a => rfGo s'.nx a K
      | none => none
    | none => none
def run (cx : Cx) {R : Type} (enc : RS R) (labs : List (Lab R)) : Nat → Bool → List PIt → St → Option R
  | 0, _, _, _ => none
  | n + 1, chk, k, s => match (bif chk then findLab k labs else none) with
    | some lab => match lab.ls.get cx.ids (lab.ls.co cx.ids s) with
      | some d => lab.F d
      | none => none
    | none => match k with
      | [] => endq cx enc none s
      | ⟨_, p, it⟩ :: k' => match it with
        | .code c => match c with
          | .skip => run cx enc labs n true k' s
          | .label _ => run cx enc labs n true k' s
          | .seq x y => run cx enc labs n true (⟨0, 0 :: p, .code x⟩ :: ⟨0, 1 :: p, .code y⟩ :: k') s
          | .cond c x y => match s.ev c with
            | some (.bool b) => bif b then run cx enc labs n true (⟨0, 0 :: p, .code x⟩ :: k') (s.know c true) else run cx enc labs n true (⟨0, 1 :: p, .code y⟩ :: k') (s.know c false)
            | some (.val (.bool b)) => bif b then run cx enc labs n true (⟨0, 0 :: p, .code x⟩ :: k') s else run cx enc labs n true (⟨0, 1 :: p, .code y⟩ :: k') s
            | _ => none
          | .block id x => run cx enc labs n true (⟨0, 0 :: p, .code x⟩ :: ⟨1, p, .inBlock id⟩ :: k') s
          | .loop x => run cx enc labs n true (⟨0, 0 :: p, .code x⟩ :: ⟨2, p, .inLoop x⟩ :: k') s
          | .exit id => match exitP id k' with
            | some k'' => run cx enc labs n true k'' s
            | none => match cx.rd with
              | some _ => endq cx enc (some (.exit id)) s
              | none => none
          | .region _ ops d => bif d then drawR cx.P cx.tb ops s (fun s' => run cx enc labs n true k' s'.bump) else opsR cx.P cx.tb ops ops.toList s (fun s' => run cx enc labs n true k' s'.bump)
          | .ret => endq cx enc (some .ret) s
          | .rangeFunc g ps _ _ => rfR cx p g ps.toList s fun j s' => match j with
            | none => run cx enc labs n true k' s'
            | some .ret => endq cx enc (some .ret) s'
            | some (.exit id) => match exitP id k' with
              | some k'' => run cx enc labs n true k'' s'
              | none => match cx.rd with
                | some _ => endq cx enc (some (.exit id)) s'
                | none => none
          | _ => none
        | .inBlock _ => run cx enc labs n true k' s
        | .inLoop x => run cx enc labs n true (⟨0, 0 :: p, .code x⟩ :: ⟨2, p, .inLoop x⟩ :: k') s
        | .beginRound => match cx.rd with
          | some m => match look s.hp m with
            | some (.loop .ready pe f n' fr ps tag D) => run cx enc labs n true k' { s with hp := (m, .loop .busy pe f n' fr ps tag D) :: s.hp }
            | _ => none
          | none => none
        | _ => none
end Go.Sym
/- The whole of a body: what is emitted is what the machine does. -/
namespace Go.Sym
open Go.RowKit
variable [LC]

/-- from here the call (or the round) comes to its end -/
def Arrives (P : Program) (ro : Option Nat) (f : FuncId) (x : Machine) (cs : List Frame) (Q : Value → World → Prop) : Prop :=
  match ro with
  | none => ∃ v w' fr, Q v w' ∧ Steps P x (lone fr cs w') ∧ fr.fn = f ∧ fr.leaving P w' (.returned v)
  | some _ => ∀ c cs', cs = c :: cs' → ∃ v w', Q v w' ∧ Steps P x (lone (c.finish v) cs' w')
omit [LC] in
theorem Arrives.head {P : Program} {ro : Option Nat} {f : FuncId} {x y : Machine} {cs : List Frame} {Q : Value → World → Prop} (h : Steps P x y) (k : Arrives P ro f y cs Q) : Arrives P ro f x cs Q := by
  cases ro with
  | none => obtain ⟨v, w', fr, h1, h2, h3⟩ := k; exact ⟨v, w', fr, h1, h.trans h2, h3⟩
  | some l => exact fun c cs' e => by obtain ⟨v, w', h1, h2⟩ := k c cs' e; exact ⟨v, w', h1, h.trans h2⟩

section
variable {P : Program} {w₀ : World} {G₀ : Gh} {hp₀ : List (Nat × Box)} {G : Gh} {s : St} {a : Act} {w : World}

def resOf (tmps : Array Value) (x : ResultVar) : Sem Value := match x with
  | .tmp t => pure (tmps.getD t undef)
  | .cell a t => do loadVar t (← asAddr (tmps.getD a undef))
omit [LC] in
theorem results_eq (fn : Func) (tmps : Array Value) : results fn tmps = (do let vs ← fn.results.mapM (resOf tmps); pure (if h : vs.size = 1 then vs[0] else .tuple vs)) := rfl
theorem aresult_ok (hr : Rel w₀ G₀ hp₀ G s a w) {x : ResultVar} {v : AV} (hq : resQ P s x = true) (h : aresult P s x = some v) : ∃ u, (resOf a.tmps x).run P w = .ok u w ∧ Rep v G u := by
  cases x with
  | tmp t =>
    obtain ⟨u, h1, h2⟩ := hr.frame t v h
    exact ⟨u, by simp [resOf, Array.getD_eq_getD_getElem?, h1], h2⟩
  | cell t T =>
    simp only [aresult] at h
    split at h
    · rename_i b off hb
      split at h
      · rename_i cs T' hc
        obtain ⟨u, h1, B, hB, rfl⟩ := hr.frame _ _ hb
        obtain ⟨B', vs, k1, k2, k3, _⟩ := hr.fin.mem.holds _ _ hc
        rw [k1] at hB; injection hB with hB; subst hB
        obtain ⟨z, hz, hrz⟩ := run_loadVar' (P := P) (w := w) h (o := 0) k3 (fun j u hu => by rw [Nat.zero_add]; exact cell_of_heap k2 hu)
        rw [Nat.zero_add] at hz
        exact ⟨z, by simp [resOf, Array.getD_eq_getD_getElem?, h1, asAddr, hz], hrz⟩
      · cases h
    · rename_i k sz hb
      split at h
      · rename_i τ l E n hl hagg hn
        simp only [resQ, hb, hl, hn, decide_eq_true_eq] at hq
        cases hbb : τ.is1 && Nat.beq sz 1 <;> rw [hbb] at h <;> simp only [cond_true, cond_false, reduceCtorEq, Option.some.injEq] at h
        subst h
        simp only [Bool.and_eq_true] at hbb
        have hsz : τ.sz = 1 := is1_sz hbb.1
        obtain ⟨u, h1, B, n0, c0, ho, rfl⟩ := hr.frame _ _ hb
        obtain ⟨ad, c', q1, q2⟩ := hr.fin.mem.holds _ _ hl
        rw [ho] at q1; simp only [Option.some.injEq, Prod.mk.injEq] at q1
        obtain ⟨rfl, rfl, rfl⟩ := q1
        rcases q2 with ⟨q2, _⟩ | ⟨g, vs, fz, k1, k2, k3, k4, k5, k6, k7, k8, k9⟩
        · cases q2
        · simp only [Option.some.injEq, Addr.mk.injEq, and_true] at k1
          subst k1
          have hfl : (l.flatMap τ.enc).length = n := by rw [flat_len, hsz, hq, Nat.mul_one]
          have hload : aload P T (l.flatMap τ.enc) 0 = some (.agg (l.flatMap τ.enc)) := by
            unfold aload
            rw [hagg, hn]
            have : Nat.ble (0 + n) (l.flatMap τ.enc).length = true := by rw [hfl, Nat.zero_add]; simp
            simp only [this, cond_true, List.drop_zero]
            rw [List.take_of_length_le (by rw [hfl]; exact Nat.le_refl _)]
          obtain ⟨u, hu, us, rfl, hru⟩ := run_loadVar' (P := P) (w := w) hload (B := B) (o := 0) k7 (fun j u hu => by
            rw [List.getElem?_take] at hu
            split at hu
            · rw [Nat.zero_add]; exact cell_of_heap k2 hu
            · cases hu)
          simp only [Nat.add_zero] at hu
          refine ⟨.agg us, by simp [resOf, Array.getD_eq_getD_getElem?, h1, asAddr, hu], ?_⟩
          have := reps_arr (G := G) hbb.1 hru
          simpa using this
      · cases h
    · cases h
theorem aresults_ok (hr : Rel w₀ G₀ hp₀ G s a w) : ∀ {xs : List ResultVar} {vs : List AV}, resQs P s xs = true → aresults P s xs = some vs →
    ∃ us : List Value, (xs.mapM (resOf a.tmps)).run P w = .ok us w ∧ Reps vs G us
  | [], vs, _, h => by simp only [aresults, Option.some.injEq] at h; subst h; exact ⟨[], by simp, trivial⟩
  | x :: xs, vs, hq, h => by
    simp only [resQs, Bool.and_eq_true] at hq
    simp only [aresults] at h
    split at h
    · rename_i v hv
      split at h
      · rename_i us hus
        simp only [Option.some.injEq] at h; subst h
        obtain ⟨u, hu, hru⟩ := aresult_ok hr hq.1 hv
        obtain ⟨us', hu', hru'⟩ := aresults_ok hr hq.2 hus
        refine ⟨u :: us', ?_, hru, hru'⟩
        rw [List.mapM_cons]
        simp only [Sem.run_bind, hu, Result.andThen_ok, hu', Sem.run_pure]
      · cases h
    · cases h
theorem aret_ok (hr : Rel w₀ G₀ hp₀ G s a w) {fn : Func} {v : AV} (hq : resQs P s fn.results.toList = true) (h : aret P fn s = some v) : ∃ u, (results fn a.tmps).run P w = .ok u w ∧ Rep v G u := by
  unfold aret at h
  have key : ∀ vs, aresults P s fn.results.toList = some vs → ∃ us : List Value, (results fn a.tmps).run P w = .ok (if h : us.toArray.size = 1 then us.toArray[0] else .tuple us.toArray) w ∧ Reps vs G us := fun vs hv => by
    obtain ⟨us, h1, h2⟩ := aresults_ok hr hq hv
    refine ⟨us, ?_, h2⟩
    rw [results_eq, Array.mapM_eq_mapM_toList]
    simp only [Sem.run_bind, Sem.run_map, h1, Result.andThen_ok, Sem.run_pure]
  split at h
  · rename_i vs hv
    obtain ⟨us, h1, h2⟩ := key _ hv
    split at h
    · simp only [Option.some.injEq] at h; subst h
      match us, h2 with
      | [u], h2 => exact ⟨u, by rw [h1]; rfl, h2.1⟩
      | [], h2 => exact h2.elim
      | _ :: _ :: _, h2 => exact h2.2.elim
    · rename_i hne
      simp only [Option.some.injEq] at h; subst h
      refine ⟨.tuple us.toArray, ?_, us.toArray, rfl, by simpa using h2⟩
      rw [h1, dif_neg]
      intro he
      have hl := h2.length
      simp at he
      rw [he] at hl
      match vs, hl, hne with
      | [x], _, hne => exact hne x rfl
  · cases h
theorem Rel.coR {bs : List (Nat × BPt)} : ∀ {xs : List ResultVar} {ps : List Pt} {s : St} {G : Gh}, Rel w₀ G₀ hp₀ G s a w → ∃ G', Rel w₀ G₀ hp₀ G' (coR bs xs ps s) a w
  | [], _, s, G, hr => ⟨G, hr⟩
  | x :: xs, ps, s, G, hr => by
    unfold Sym.coR
    split
    · exact ⟨G, hr⟩
    · split
      · obtain ⟨G', hr'⟩ := hr.coF (bs := bs) (l := [(_, _)])
        exact Rel.coR hr'
      · split
        · obtain ⟨G', hr'⟩ := hr.coB1 (bs := bs)
          exact Rel.coR hr'
        · exact Rel.coR hr
theorem finV_ok (hr : Rel w₀ G₀ hp₀ G s a w) {ids : NM} (hid : ∀ n bx, look hp₀ n = some bx → lookN ids n = some n) {v : AV} {p : Pt} {hp : List (Nat × BPt)} {y : p.den × bden hp} (h : finV v ids p hp s = some y) :
    ∃ G', Fin w₀ G₀ hp₀ G' (bput hp y.2) w ∧ ∀ u, Rep v G u → Rep (p.put y.1) G' u := by
  unfold finV at h
  split at h
  · rename_i d nm h1
    split at h
    · rename_i d' nm' h2
      cases hq : distinctOld nm' && allIn nm' hp <;> rw [hq] at h <;> simp only [cond_true, cond_false, reduceCtorEq] at h
      have h := Option.some.inj h; subst h
      simp only [Bool.and_eq_true] at hq
      obtain ⟨g1, g2⟩ := Pt.get_seen h1
      obtain ⟨b1, b2⟩ := bget_seen h2
      obtain ⟨b3, _⟩ := b2 nm' hq.1 (SubN.refl _)
      exact ⟨G.view nm', hr.fin.fit hq.1 (fun n bx hb => b1 _ _ (g1 _ _ (hid n bx hb))) b3, fun u hu => (g2 nm' hq.1 b1).rep hu⟩
    · cases h
  · cases h
/-- what is handed back, and how -/
def RetOk (P : Program) (fn : Func) (rv : Option AV) (a : Act) (w : World) (Q : Value → Prop) : Prop :=
  match rv with
  | none => ∃ u, (results fn a.tmps).run P w = .ok u w ∧ Q u
  | some x => ∀ b, x = .val (.bool b) → Q (.bool b)
theorem finOne_ok (hr : Rel w₀ G₀ hp₀ G s a w) {ids : NM} (hid : ∀ n bx, look hp₀ n = some bx → lookN ids n = some n) {fn : Func} {rv : Option AV} {p : Pt} {hp : List (Nat × BPt)} {y : p.den × bden hp} (hq : finQ P fn ids rv p hp s = true) (h : finOne P fn ids rv p hp s = some y) :
    RetOk P fn rv a w fun u => ∃ G', Fin w₀ G₀ hp₀ G' (bput hp y.2) w ∧ Rep (p.put y.1) G' u := by
  unfold finOne at h
  split at h
  · rename_i x
    obtain ⟨G1, hr1⟩ := hr.coB (bs := hp) (nm := ids) (l := hp)
    obtain ⟨G', h1, h2⟩ := finV_ok hr1 hid h
    exact fun b e => ⟨G', h1, h2 _ (by subst e; rfl)⟩
  · split at h
    · rename_i v hv
      obtain ⟨G1, hr1⟩ := hr.coB (bs := hp) (nm := ids) (l := hp)
      obtain ⟨G2, hr2⟩ := hr1.coR (bs := hp) (xs := fn.results.toList) (ps := ptsOf p)
      obtain ⟨G', h1, h2⟩ := finV_ok hr2 hid h
      obtain ⟨u, hu, hru⟩ := aret_ok hr2 hq hv
      exact ⟨u, hu, G', h1, h2 _ hru⟩
    · cases h
omit [LC] in
theorem RetOk.mono {fn : Func} {rv : Option AV} {Q Q' : Value → Prop} (h : RetOk P fn rv a w Q) (k : ∀ v, Q v → Q' v) : RetOk P fn rv a w Q' := by
  cases rv with
  | none => obtain ⟨u, h1, h2⟩ := h; exact ⟨u, h1, k _ h2⟩
  | some x => exact fun b e => k _ (h b e)
theorem fin_ok (hr : Rel w₀ G₀ hp₀ G s a w) {ids : NM} (hid : ∀ n bx, look hp₀ n = some bx → lookN ids n = some n) {fn : Func} {rv : Option AV} : ∀ {α : Type} {enc : RS α} {x : α}, enc.fin P fn ids rv s = some x →
    RetOk P fn rv a w fun u => ∃ G', Fin w₀ G₀ hp₀ G' (enc.res x).2 w ∧ Rep (enc.res x).1 G' u
  | _, .one p hp to fro ok, x, h => by
    simp only [RS.fin] at h
    cases hq : finQ P fn ids rv p hp s <;> rw [hq] at h <;> simp only [cond_true, cond_false, reduceCtorEq] at h
    split at h
    · rename_i y hy
      have h := Option.some.inj h; subst h
      have := finOne_ok (P := P) hr hid hq hy
      simp only [RS.res, ok]
      exact this
    · cases h
  | _, .two l r, x, h => by
    simp only [RS.fin] at h
    split at h
    · rename_i y hy
      have h := Option.some.inj h; subst h
      have := fin_ok (enc := l) hr hid hy
      exact this
    · split at h
      · rename_i y hy
        have h := Option.some.inj h; subst h
        have := fin_ok (enc := r) hr hid hy
        exact this
      · cases h
omit [LC] in
theorem bel_put (w : World) (B : Nat) (o : Obj) : Bel (fun b => b = B) w (w.putObj B o) :=
  ⟨rfl, rfl, rfl, by simp, fun k _ hne => World.putObj_heap_other hne⟩
/-- another thing lies in a box -/
theorem Rel.setBox (hr : Rel w₀ G₀ hp₀ G s a w) {n : Nat} {bx bx' : Box} {B : Nat} (hn : look s.hp n = some bx) (hB : G.at n bx = some B) (hB' : ∀ c, G.at n bx' = some c → c = B) {o : Obj}
    (hok : BoxOk G (w.putObj B o) n bx') (hi : ∀ o, G.imm B o = none) : Rel w₀ G₀ hp₀ G { s with hp := (n, bx') :: s.hp } a (w.putObj B o) :=
  ⟨hr.defers, hr.size, hr.frame, fun m hm hl => hr.fresh m hm (by
    simp only [look] at hl
    cases hb : Nat.beq n m
    · rw [hb] at hl; exact hl
    · rw [hb] at hl; cases hl), hr.fin.update' hn hB hB' (bel_put w B o) hok hi⟩
theorem closeDf_ok : ∀ {ns : List Nat} {s s' : St} {G : Gh} {a : Act} {w : World}, s.df = ns → closeDf ns s = some s' → Rel w₀ G₀ hp₀ G s a w → ∀ (fr : Frame) (cs : List Frame), fr.mode = .returning → fr.defers = a.defers →
    ∃ w', Rel w₀ G₀ hp₀ G s' { a with defers := [] } w' ∧ Steps P (lone fr cs w) (lone { fr with defers := [] } cs w')
  | [], s, s', G, a, w, hd, h, hr, fr, cs, hm, hfd => by
    simp only [closeDf, Option.some.injEq] at h; subst h
    obtain ⟨bs, h1, h2⟩ := hr.defers
    rw [hd] at h2
    have : bs = [] := by cases bs with
      | nil => rfl
      | cons _ _ => simp at h2
    subst this
    refine ⟨w, ⟨⟨[], rfl, rfl⟩, hr.size, hr.frame, hr.fresh, hr.fin⟩, ?_⟩
    have e : ({ fr with defers := [] } : Frame) = fr := by rw [← show fr.defers = [] by rw [hfd, h1]; rfl]
    rw [e]
    exact .refl _ _
  | n :: ns, s, s', G, a, w, hd, h, hr, fr, cs, hm, hfd => by
    simp only [closeDf] at h
    split at h
    · rename_i hl
      obtain ⟨bs, h1, h2⟩ := hr.defers
      rw [hd] at h2
      cases bs with
      | nil => simp at h2
      | cons b bs =>
        simp only [List.map_cons, List.cons.injEq] at h2
        obtain ⟨B, k1, k2, k3⟩ := hr.fin.mem.holds n _ hl
        rw [k1] at h2; obtain ⟨e, h2⟩ := h2; injection e with e; subst e
        have hr1 := hr.setBox (bx' := .dead) (o := .deferred none) hl (show G.at n .dfr = some b from k1) (fun c hc => by cases hc) trivial k3
        have hr2 : Rel w₀ G₀ hp₀ G { s with hp := (n, .dead) :: s.hp, df := ns } { a with defers := bs.map (fun b => { target := .collected b, args := #[] }) } (w.putObj b (.deferred none)) :=
          ⟨⟨bs, rfl, h2⟩, hr1.size, hr1.frame, hr1.fresh, hr1.fin⟩
        have hs := step_collected (P := P) (cs := cs) (fr := fr) (by rw [hm]; simp) (by rw [hfd, h1]; rfl) rfl (run_takeDeferred k2)
        obtain ⟨w', i1, i2⟩ := closeDf_ok (a := { a with defers := bs.map (fun b => { target := .collected b, args := #[] }) }) rfl h hr2 { fr with defers := [] ++ bs.map (fun b => { target := .collected b, args := #[] }) } cs hm rfl
        exact ⟨w', i1, (Steps.one hs).trans i2⟩
    · cases h
end
end Go.Sym
/- Loops over functions: the statement. -/
namespace Go.Sym
open Go.RowKit
variable [LC]

structure Cx.Ok (cx : Cx) (body : Code) : Prop where
  ents : ∀ e ∈ cx.tb.ents, e.Sound cx.P
  mixed : cx.P.follows .mixedOrders = true
  func : cx.P.funcs[cx.f]? = some cx.fn
  tags : ∀ p t, lookT p cx.tags = some t → ∀ g ps x y, sub body p = .rangeFunc g ps x y → LC.lc t = some (x, y)
def RdOk (cx : Cx) (G₀ : Gh) (hp₀ : List (Nat × Box)) (b : Frame) : Prop := match cx.rd with
  | none => b.roundOf = none
  | some m => ∃ B bx, G₀.box m = some B ∧ look hp₀ m = some bx ∧ b.roundOf = some B

section
variable {w₀ : World} {G₀ : Gh} {hp₀ : List (Nat × Box)} {G : Gh} {s : St} {a : Act} {w : World}
omit [LC] in
theorem run_enterLoop_inner {P : Program} (fn : FuncId) (tmps : Array Value) (ps : Array Tmp) (as bo : Code) {l : Nat} {r : Loop} (h : w.heap[l]? = some (.loop r)) :
    (Instr.enterLoop fn tmps ps as bo (some l)).run P w = .ok (w.heap.size, []) (w.alloc (.loop { state := .ready, pending := none, fn, tmps, params := ps, assign := as, body := bo, defers := r.defers })) := by
  unfold Instr.enterLoop
  simp only [Sem.run_bind, run_getLoop h, run_newObj_alloc, Result.andThen, Sem.run_pure]
def Gh.addBox (G : Gh) (k : Nat) (B : Nat) : Gh := { imm := G.imm, box := fun m => bif Nat.beq m k then some B else G.box m, own := G.own }
omit [LC] in
theorem Gh.addBox_le {k B : Nat} (h : G.box k = none) : G.le (G.addBox k B) :=
  ⟨fun _ _ _ h => h, fun n B' hn => by
    show (bif Nat.beq n k then some B else G.box n) = _
    cases hb : Nat.beq n k
    · exact hn
    · (have := Nat.eq_of_beq_eq_true hb; subst this; rw [h] at hn; cases hn), fun _ _ h => h⟩
omit [LC] in
theorem Gh.addBox_self {k B : Nat} : (G.addBox k B).box k = some B := by show (bif Nat.beq k k then some B else G.box k) = _; simp
omit [LC] in
theorem Gh.addBox_ne {k B m : Nat} (h : m ≠ k) : (G.addBox k B).box m = G.box m := by
  show (bif Nat.beq m k then some B else G.box m) = _
  cases hb : Nat.beq m k
  · rfl
  · exact absurd (Nat.eq_of_beq_eq_true hb) h
/-- a new box that holds no cells -/
theorem Rel.newBox (hr : Rel w₀ G₀ hp₀ G s a w) {k : Nat} {bx : Box} {o : Obj} (hk : look s.hp k = none) (hkx : s.nx ≤ k) (hat : ∀ b, (G.addBox k w.heap.size).at k bx = some b → b = w.heap.size)
    (hok : BoxOk (G.addBox k w.heap.size) (w.alloc o) k bx) : Rel w₀ G₀ hp₀ (G.addBox k w.heap.size) { s with hp := (k, bx) :: s.hp } a (w.alloc o) := by
  obtain ⟨hkb, hko⟩ := hr.fresh k hkx hk
  have hle : G.le (G.addBox k w.heap.size) := Gh.addBox_le hkb
  have hl1 : ∀ n b, look [(k, bx)] n = some b → n = k ∧ b = bx := fun n b h => by
    simp only [look] at h
    cases hb : Nat.beq k n
    · rw [hb] at h; cases h
    · rw [hb] at h; simp only [cond_true, Option.some.injEq] at h
      exact ⟨(Nat.eq_of_beq_eq_true hb).symm, h.symm⟩
  have hlt : ∀ b o v, G.imm b o = some v → b < w.heap.size := fun b o v h => World.block_lt_of_cell? _ _ (hr.fin.mem.agree _ _ _ h)
  refine ⟨by obtain ⟨bs, h1, h2⟩ := hr.defers; exact ⟨bs, h1, defers_le hle.box h2⟩, hr.size, fun i x hx => by obtain ⟨v, h1, h2⟩ := hr.frame i x hx; exact ⟨v, h1, h2.le hle⟩, fun m hm hl => ?_, ?_⟩
  · simp only [look] at hl
    cases hb : Nat.beq k m
    · rw [hb] at hl
      obtain ⟨h1, h2⟩ := hr.fresh m hm hl
      exact ⟨by rw [Gh.addBox_ne (fun e => by subst e; simp at hb)]; exact h1, h2⟩
    · rw [hb] at hl; cases hl
  · refine hr.fin.extend (new := [(k, bx)]) hle (still_alloc _ _) (fun _ _ _ h => .inl h) (fun b o v h => ?_) hr.fin.mem.one ?_ ?_ ?_
    · rw [World.cell?_alloc_lt _ _ _ (hlt b o v h)]; exact hr.fin.mem.agree _ _ _ h
    · intro n b h
      obtain ⟨rfl, _⟩ := hl1 n b h; exact hk
    · intro n b h
      obtain ⟨rfl, rfl⟩ := hl1 n b h
      exact ⟨hok, fun b hb => by rw [hat b hb]; exact Nat.le_refl _⟩
    · intro n m b b' c h1 h2 _ _
      obtain ⟨rfl, _⟩ := hl1 n b h1
      obtain ⟨rfl, _⟩ := hl1 m b' h2
      rfl
theorem loop_ok (hr : Rel w₀ G₀ hp₀ G s a w) {k D DB : Nat} {f : FuncId} {ps : Array Tmp} {tag : Nat} {as bo : Code} (htag : LC.lc tag = some (as, bo)) (hk : look s.hp k = none) (hkx : s.nx ≤ k) (hD : G.box D = some DB) (hne : D ≠ k) :
    Rel w₀ G₀ hp₀ (G.addBox k w.heap.size) { s with hp := (k, .loop .ready none f s.n s.fr ps.toList tag D) :: s.hp } a (w.alloc (.loop { state := .ready, pending := none, fn := f, tmps := a.tmps, params := ps, assign := as, body := bo, defers := DB })) := by
  have hle : G.le (G.addBox k w.heap.size) := Gh.addBox_le (hr.fresh k hkx hk).1
  refine hr.newBox hk hkx (fun b hb => ?_) ⟨w.heap.size, a.tmps, DB, Gh.addBox_self, by rw [Gh.addBox_ne hne]; exact hD, ⟨as, bo, htag, ?_⟩, hr.size, fun i x hx => ?_, fun o => ?_⟩
  · have hb : (G.addBox k w.heap.size).box k = some b := hb
    rw [Gh.addBox_self] at hb; injection hb with hb; exact hb.symm
  · rw [heap_alloc_top]; simp
  · obtain ⟨v, h1, h2⟩ := hr.frame i x hx; exact ⟨v, h1, h2.le hle⟩
  · cases hq : (G.addBox k w.heap.size).imm w.heap.size o with
    | none => rfl
    | some v =>
      have := World.block_lt_of_cell? _ _ (hr.fin.mem.agree _ _ _ hq)
      simp at this
theorem Rel.nx (hr : Rel w₀ G₀ hp₀ G s a w) {k : Nat} (h : s.nx ≤ k) : Rel w₀ G₀ hp₀ G { s with nx := k } a w := ⟨hr.defers, hr.size, hr.frame, fun m hm hl => hr.fresh m (Nat.le_trans h hm) hl, hr.fin⟩
/-- the loop is entered -/
theorem enterRF_ok (hr : Rel w₀ G₀ hp₀ G s a w) {cx : Cx} {ps : Array Tmp} {tag : Nat} {as bo : Code} (htag : LC.lc tag = some (as, bo)) {s1 : St} (h : s.enterRF cx.f ps.toList tag cx.rd = some s1) {b : Frame} (hb : b.fn = cx.f) (hrd : RdOk cx G₀ hp₀ b) :
    ∃ G1 l mark w1, (Instr.enterLoop b.fn a.tmps ps as bo b.roundOf).run cx.P w = .ok (l, mark) w1 ∧ G1.box s.nx = some l ∧ G.le G1 ∧ Rel w₀ G₀ hp₀ G1 s1 { a with defers := mark ++ a.defers } w1 ∧ s1.nx = s.nx + 16 := by
  unfold St.enterRF at h
  cases hn : noRange s.nx s.hp <;> rw [hn] at h <;> simp only [cond_true, cond_false, reduceCtorEq] at h
  have hk0 := noRange_look hn s.nx (Nat.le_refl _) (by omega)
  have hk1 := noRange_look hn (s.nx + 1) (by omega) (by omega)
  unfold RdOk at hrd
  split at h
  · rename_i hc
    rw [hc] at hrd
    simp only at hrd
    simp only [Option.some.injEq] at h; subst h
    have hr1 := hr.newBox (k := s.nx + 1) (bx := .dfr) (o := .deferred (some [])) hk1 (by omega) (fun b hb => by
      have hb : (G.addBox (s.nx + 1) w.heap.size).box (s.nx + 1) = some b := hb
      rw [Gh.addBox_self] at hb; injection hb with hb; exact hb.symm)
      ⟨w.heap.size, Gh.addBox_self, heap_alloc_top _ _, fun o => by
        cases hq : (G.addBox (s.nx + 1) w.heap.size).imm w.heap.size o with
        | none => rfl
        | some v =>
          have := World.block_lt_of_cell? _ _ (hr.fin.mem.agree _ _ _ hq)
          simp at this⟩
    have hk0' : look ((s.nx + 1, Box.dfr) :: s.hp) s.nx = none := by
      simp only [look]
      have : Nat.beq (s.nx + 1) s.nx = false := by
        cases hq : Nat.beq (s.nx + 1) s.nx
        · rfl
        · have := Nat.eq_of_beq_eq_true hq; omega
      rw [this]; exact hk0
    have hr2 := loop_ok hr1 (k := s.nx) (D := s.nx + 1) (f := cx.f) (ps := ps) htag hk0' (Nat.le_refl _) Gh.addBox_self (by omega)
    have hle1 : G.le (G.addBox (s.nx + 1) w.heap.size) := Gh.addBox_le (hr.fresh (s.nx + 1) (by omega) hk1).1
    have hle2 : (G.addBox (s.nx + 1) w.heap.size).le ((G.addBox (s.nx + 1) w.heap.size).addBox s.nx (w.alloc (.deferred (some []))).heap.size) := Gh.addBox_le (hr1.fresh s.nx (Nat.le_refl _) hk0').1
    refine ⟨_, w.heap.size + 1, [{ target := .collected w.heap.size, args := #[] }], _, by rw [hrd, hb]; exact run_enterLoop_outer _ _ _ _ _, ?_, hle1.trans hle2, ?_, rfl⟩
    · rw [Gh.addBox_self, World.size_alloc]
    · have hr3 := hr2.nx (k := s.nx + 16) (by show s.nx ≤ _; omega)
      refine ⟨?_, hr3.size, hr3.frame, hr3.fresh, hr3.fin⟩
      obtain ⟨bs, h1, h2⟩ := hr3.defers
      refine ⟨w.heap.size :: bs, by rw [h1]; rfl, ?_⟩
      simp only [List.map_cons, List.cons.injEq]
      refine ⟨?_, h2⟩
      rw [Gh.addBox_ne (by omega), Gh.addBox_self]
  · rename_i m hc
    rw [hc] at hrd
    simp only at hrd
    obtain ⟨B, bx0, e1, e2, e3⟩ := hrd
    split at h
    · rename_i D hm
      simp only [Option.some.injEq] at h; subst h
      obtain ⟨B', tmps, DB, k1, k2, ⟨as', bo', _, k3⟩, _⟩ := hr.fin.mem.holds _ _ hm
      have := hr.fin.keep m bx0 B e2 e1
      rw [this] at k1; injection k1 with k1; subst k1
      have hne : D ≠ s.nx := fun e => by subst e; rw [(hr.fresh _ (Nat.le_refl _) hk0).1] at k2; cases k2
      have hr2 := loop_ok hr (k := s.nx) (D := D) (f := cx.f) (ps := ps) htag hk0 (Nat.le_refl _) k2 hne
      have hle2 : G.le (G.addBox s.nx w.heap.size) := Gh.addBox_le (hr.fresh s.nx (Nat.le_refl _) hk0).1
      refine ⟨_, w.heap.size, [], _, by rw [e3, hb]; exact run_enterLoop_inner _ _ _ _ _ k3, Gh.addBox_self, hle2, ?_, rfl⟩
      exact hr2.nx (k := s.nx + 16) (by show s.nx ≤ _; omega)
    · cases h
end
end Go.Sym
/- The whole of a body: what is emitted is what the machine does. -/
namespace Go.Sym
open Go.RowKit
variable [LC]

def jcode : Option Jmp → List Item
  | none => []
  | some j => [.code j.code]
section
variable {w₀ : World} {G₀ : Gh} {hp₀ : List (Nat × Box)} {G : Gh} {s : St} {a : Act} {w : World} {cx : Cx} {body : Code} {R : Type}

theorem rfGo_ok (ok : cx.Ok body) (hr : Rel w₀ G₀ hp₀ G s a w) {p : List Nat} {g : Operand} {ps : Array Tmp} {as bo : Code} (hsub : sub body p = .rangeFunc g ps as bo) {q : Rq × St × List AV} (hq : rfAsk cx p g ps.toList s = some q)
    {K : Option Jmp → St → Option R} {x : R} (h : rfGo s.nx q K = some x) {b : Frame} (cs : List Frame) (hb : b.fn = cx.f) (_hkind : b.kind = .normal) (hrd : RdOk cx G₀ hp₀ b) (k : List Item) :
    ∃ j s' G' a' w', K j s' = some x ∧ Rel w₀ G₀ hp₀ G' s' a' w' ∧ Steps cx.P (lone (b.atR a (.code (.rangeFunc g ps as bo) :: k)) cs w) (lone (b.atR a' (jcode j ++ k)) cs w') := by
  unfold rfAsk at hq
  split at hq
  · rename_i tag h0 cap ht hg
    split at hq
    · rename_i s1 hs1
      split at hq
      · rename_i q1 hq1
        have hq := Option.some.inj hq; subst hq
        obtain ⟨G1, l, mark, w1, he, hl, hle, hr1, hnx⟩ := enterRF_ok hr (ok.tags p tag ht g ps as bo hsub) hs1 hb hrd
        unfold rfGo at h
        obtain ⟨d, hd, h⟩ := Rq.K_some h
        simp only at h hd
        obtain ⟨e, hemem, hc⟩ := firstQ_mem hq1
        unfold callMQ at hc
        cases hkk : keyIs h0 e.key <;> rw [hkk] at hc <;> simp only [cond_true, cond_false, reduceCtorEq] at hc
        obtain ⟨N, x1, x1', y, k1, k2, k3, k4, k5, k6⟩ := memQ_ok hc hd
        subst k2
        have hs := ok.ents e hemem x1 x1' y k1
        rw [keyIs_eq hkk] at hs
        obtain ⟨hpl, hct⟩ := hs
        unfold rfCall at h
        simp only at h
        cases hbb : distinctOld N && distinctNew N && noRange s1.nx s1.hp <;> rw [hbb] at h <;> simp only [cond_true, cond_false, reduceCtorEq] at h
        simp only [Bool.and_eq_true] at hbb
        obtain ⟨⟨hb1, _⟩, hb2⟩ := hbb
        cases hv : viewHp (rho N) s1.hp N with
        | none => rw [hv] at h; simp only [reduceCtorEq] at h
        | some hpv =>
        cases hvs : vws false [] (AV.rens (rho N) (.yld s.nx :: cap)) (Pts.put e.args x1) with
        | none => rw [hv, hvs] at h; simp only [reduceCtorEq] at h
        | some ps1 =>
        rw [hv, hvs] at h
        simp only at h
        cases hvw : vwHp hpv (bput e.hp x1') with
        | none => rw [hvw] at h; simp only [reduceCtorEq] at h
        | some ps2 =>
        rw [hvw] at h
        simp only at h
        have p1 := k5 _ hvs
        have p2 := k6 _ _ hv hvw
        obtain ⟨fs, cps, hge, hfs, hcs⟩ := ev_ok hr hg
        have hfs0 : fs = #[] := Array.eq_empty_of_size_eq_zero (by simpa using hfs.length.symm)
        subst hfs0
        have hge' : ({ a with defers := mark ++ a.defers } : Act).eval g = .func (.func h0) #[] cps := hge
        have hres : (resolve a.eval (rangeCall g l) 0).run cx.P w1 = .ok { target := .fn (.func h0) cps, args := #[.func (.yield l) #[] #[]] } w1 := by
          have hy : a.eval (.const (.func (.yield l) #[] #[])) = .func (.yield l) #[] #[] := rfl
          simp [resolve, hge, Deferred.ofValue, hy]
        have hinv : (invoke (.fn (.func h0) cps) #[.func (.yield l) #[] #[]]).run cx.P w1 = .ok (.enter h0 (#[.func (.yield l) #[] #[]] ++ cps)) w1 := by
          simp [invoke, hpl _ w1]
        have henter := stepR_rangeFunc (P := cx.P) (b := b) (a := a) (k := k) (cs := cs) he hres hinv
        have hreps : Reps (.yld s.nx :: cap) G1 (.func (.yield l) #[] #[] :: cps.toList) := ⟨⟨l, hl, rfl⟩, hcs.le hle⟩
        have hm : Mem (G1.view N) (bput e.hp x1') w1 := (hr1.fin.mem.view hv (distinctOld_spec hb1)).vw hvw p2
        have hreps2 := vws_ok (Gh.le.refl _) (fun e => by cases e) hvs p1 (Reps.ren (G := G1) (G' := G1.view N) (fun _ _ _ h => h) (view_box N) (view_own N) hreps)
        have hcalls := hct w1 (G1.view N) _ hm hreps2
        have e1 : (Value.func (.yield l) #[] #[] :: cps.toList).toArray = #[.func (.yield l) #[] #[]] ++ cps := by simp
        rw [e1] at hcalls
        obtain ⟨en, w2, fr, hpost, hcomes, hfrfn, hleave⟩ := hcalls (b.atR { a with defers := mark ++ a.defers } (.inRangeFunc l :: k) :: cs)
        obtain ⟨G2, v, rfl, _, hle2, hr2⟩ := mem_fin hr1 hb1 hb2 (Nat.le_refl _) hv hvw p2 hpost
        have hsteps : Steps cx.P (lone (b.atR a (.code (.rangeFunc g ps as bo) :: k)) cs w) (lone (b.atR { a with defers := mark ++ a.defers } (.endRangeFunc l :: k)) cs w2) := by
          refine (Steps.one henter).trans (Steps.trans hcomes (.one ?_))
          rw [← finish_atR_inRangeFunc l v]; exact step_leave_returned hleave
        split at h
        · rename_i st pe f' n' fr' ps' tag' D' hlk
          cases hnb : notBusy st <;> rw [hnb] at h <;> simp only [cond_true, cond_false, reduceCtorEq] at h
          obtain ⟨B, tmps, DB, i1, i2, ⟨as', bo', _, i3⟩, i4, i5, i6⟩ := hr2.fin.mem.holds _ _ hlk
          have := hle2.box _ _ hl
          rw [this] at i1; injection i1 with i1; subst i1
          have hend := run_endLoop (P := cx.P) i3 (by intro e; simp only at e; subst e; cases hnb)
          have hst := stepR_endRangeFunc (b := b) (a := { a with defers := mark ++ a.defers }) (k := k) (cs := cs) hend
          have e2 : (Option.map Item.code (Option.map Jmp.code pe)).toList = jcode pe := by cases pe <;> rfl
          rw [e2] at hst
          exact ⟨pe, _, G2, { a with defers := mark ++ a.defers }, _, h, (hr2.nx (k := s1.nx + 16) (Nat.le_add_right _ _)).setBox (bx' := .dead) hlk (show G2.at s.nx (.loop st pe f' n' fr' ps' tag' D') = some l from this) (fun c hc => by cases hc) trivial i6, hsteps.trans (.one hst)⟩
        · cases h
      · cases hq
    · cases hq
  · cases hq
theorem rfR_ok (ok : cx.Ok body) (hr : Rel w₀ G₀ hp₀ G s a w) {p : List Nat} {g : Operand} {ps : Array Tmp} {as bo : Code} (hsub : sub body p = .rangeFunc g ps as bo)
    {K : Option Jmp → St → Option R} {x : R} (h : rfR cx p g ps.toList s K = some x) {b : Frame} (cs : List Frame) (hb : b.fn = cx.f) (hkind : b.kind = .normal) (hrd : RdOk cx G₀ hp₀ b) (k : List Item) :
    ∃ j s' G' a' w', K j s' = some x ∧ Rel w₀ G₀ hp₀ G' s' a' w' ∧ Steps cx.P (lone (b.atR a (.code (.rangeFunc g ps as bo) :: k)) cs w) (lone (b.atR a' (jcode j ++ k)) cs w') := by
  unfold rfR at h
  split at h
  · rename_i q hq
    exact rfGo_ok ok hr hsub hq h cs hb hkind hrd k
  · split at h
    · rename_i s' hs'
      have : ∃ G', Rel w₀ G₀ hp₀ G' s' a w := by
        unfold rfPre at hs'
        split at hs'
        · split at hs'
          · split at hs'
            · have hs' := Option.some.inj hs'; subst hs'
              obtain ⟨G1, hr1⟩ := hr.frzL
              exact hr1.coB
            · cases hs'
          · cases hs'
        · cases hs'
      obtain ⟨G', hr'⟩ := this
      split at h
      · rename_i q hq
        exact rfGo_ok ok hr' hsub hq h cs hb hkind hrd k
      · cases h
    · cases h

def Goes (cx : Cx) (hp₀ : List (Nat × Box)) {R : Type} (enc : RS R) (k : List Item) (s : St) (r : R) : Prop :=
  ∀ (w₀ : World) (G₀ G : Gh) (a : Act) (w : World), Rel w₀ G₀ hp₀ G s a w → ∀ (b : Frame) (cs : List Frame), b.fn = cx.f → b.kind = .normal → RdOk cx G₀ hp₀ b →
    Arrives cx.P b.roundOf cx.f (lone (b.atR a k) cs w) cs fun v w' => ∃ G', Fin w₀ G₀ hp₀ G' (enc.res r).2 w' ∧ Rep (enc.res r).1 G' v
/-- where a body ends -/
def AtEnd (cx : Cx) (j : Option Jmp) (k : List Item) : Prop := match j with
  | none => k = []
  | some .ret => ∃ k', k = .code .ret :: k'
  | some (.exit id) => cx.rd ≠ none ∧ ∃ k', k = .code (.exit id) :: k' ∧ exitTo id k' = none
theorem endq_ok (ok : cx.Ok body) (hid : ∀ n bx, look hp₀ n = some bx → lookN cx.ids n = some n) {enc : RS R} {j : Option Jmp} {r : R} {k : List Item} (hk : AtEnd cx j k) (h : endq cx enc j s = some r) : Goes cx hp₀ enc k s r := by
  intro w₀ G₀ G a w hr b cs hb hkind hrd
  unfold endq at h
  unfold RdOk at hrd
  split at h
  · rename_i hrdn
    rw [hrdn] at hrd
    simp only at hrd
    split at h
    · rename_i s' hs'
      have h1 : Steps cx.P (lone (b.atR a k) cs w) (lone { b.atR a k with mode := .returning } cs w) := by
        cases j with
        | none => simp only [AtEnd] at hk; subst hk; exact .one (stepR_end hrd)
        | some j => cases j with
          | ret => obtain ⟨k', rfl⟩ := hk; exact .one (stepR_ret hrd)
          | exit id => exact absurd hrdn hk.1
      obtain ⟨w', i1, i2⟩ := closeDf_ok (P := cx.P) rfl hs' hr { b.atR a k with mode := .returning } cs rfl rfl
      obtain ⟨u, u1, u2⟩ := fin_ok (P := cx.P) i1 hid h
      rw [hrd]
      exact ⟨u, w', _, u2, h1.trans i2, hb, rfl, rfl, hkind, cx.fn, by rw [← ok.func, ← hb]; rfl, u1⟩
    · cases h
  · rename_i m hrdm
    rw [hrdm] at hrd
    simp only at hrd
    obtain ⟨B, bx0, e1, e2, e3⟩ := hrd
    cases hd : s.noDf <;> rw [hd] at h <;> simp only [cond_true, cond_false, reduceCtorEq] at h
    split at h
    · rename_i st pe f n fr ps tag D hl
      obtain ⟨B', tmps, DB, i1, i2, ⟨as, bo, i3, i4⟩, i5, i6, i7⟩ := hr.fin.mem.holds _ _ hl
      have := hr.fin.keep m bx0 B e2 e1
      rw [this] at i1; injection i1 with i1; subst i1
      have hend := run_endRound (P := cx.P) (j.map Jmp.code) i4
      have hiso : (j.map Jmp.code).isNone = isNo j := by cases j <;> rfl
      rw [hiso] at hend
      have hst : (if isNo j = true then LoopState.ready else LoopState.done) = (bif isNo j then LoopState.ready else LoopState.done) := by cases isNo j <;> rfl
      rw [hst] at hend
      have hr2 := hr.setBox (bx' := .loop (bif isNo j then .ready else .done) j f n fr ps tag D) (o := .loop { state := bif isNo j then .ready else .done, pending := j.map Jmp.code, fn := f, tmps := tmps, params := ps.toArray, assign := as, body := bo, defers := DB }) hl (show G.box m = some B from this)
        (fun c hc => by have hc : G.box m = some c := hc; rw [this] at hc; injection hc with hc; exact hc.symm)
        ⟨B, tmps, DB, this, i2, ⟨as, bo, i3, by rw [World.putObj_heap_same (Array.getElem?_eq_some_iff.1 i4).1]⟩, i5, i6, i7⟩ i7
      have hfin := fin_ok (P := cx.P) hr2 hid h
      rw [e3]
      intro c cs' hcs
      subst hcs
      refine ⟨.bool (isNo j), _, hfin _ rfl, .one ?_⟩
      cases j with
      | none => simp only [AtEnd] at hk; subst hk; exact stepR_round_end e3 hkind hend
      | some j => cases j with
        | ret => obtain ⟨k', rfl⟩ := hk; exact stepR_round_ret e3 hkind hend
        | exit id => obtain ⟨_, k', rfl, hx⟩ := hk; exact stepR_round_exit e3 hkind hx hend
    · cases h
end
end Go.Sym
/- A body: what is emitted is what the machine does. -/
namespace Go.Sym
open Go.RowKit
variable [LC]

section
variable {hp₀ : List (Nat × Box)} {s : St} {cx : Cx} {body : Code} {R : Type} {enc : RS R}

theorem Goes.via {k k' : List Item} {s' : St} {r : R} (h : Goes cx hp₀ enc k' s' r) (hs : ∀ w₀ G₀ G a w, Rel w₀ G₀ hp₀ G s a w → ∀ (b : Frame) (cs : List Frame), b.fn = cx.f → b.kind = .normal → RdOk cx G₀ hp₀ b →
    ∃ G' a' w', Rel w₀ G₀ hp₀ G' s' a' w' ∧ Steps cx.P (lone (b.atR a k) cs w) (lone (b.atR a' k') cs w')) : Goes cx hp₀ enc k s r := by
  intro w₀ G₀ G a w hr b cs hb hk hrd
  obtain ⟨G', a', w', h1, h2⟩ := hs w₀ G₀ G a w hr b cs hb hk hrd
  exact (h w₀ G₀ G' a' w' h1 b cs hb hk hrd).head h2
theorem Goes.one {k k' : List Item} {r : R} (h : Goes cx hp₀ enc k' s r) (hs : ∀ (a : Act) (w : World) (b : Frame) (cs : List Frame), step cx.P (lone (b.atR a k) cs w) = .next (lone (b.atR a k') cs w)) : Goes cx hp₀ enc k s r :=
  h.via fun _ _ G a w hr b cs _ _ _ => ⟨G, a, w, hr, .one (hs a w b cs)⟩
def LabOk (cx : Cx) (hp₀ : List (Nat × Box)) {R : Type} (enc : RS R) (body : Code) (l : Lab R) : Prop := ∀ d r, l.F d = some r → Goes cx hp₀ enc (items (itemsAt body l.key)) (l.ls.st d) r
omit [LC] in
theorem findLab_mem {k : List PIt} : ∀ {ls : List (Lab R)} {l : Lab R}, findLab k ls = some l → l ∈ ls ∧ eqKey l.key k = true
  | [], _, h => by cases h
  | x :: xs, l, h => by
    simp only [findLab] at h
    cases hb : eqKey x.key k <;> rw [hb] at h <;> simp only [cond_true, cond_false, Option.some.injEq] at h
    · obtain ⟨h1, h2⟩ := findLab_mem h
      exact ⟨List.mem_cons_of_mem _ h1, h2⟩
    · subst h; exact ⟨List.mem_cons_self, hb⟩
omit [LC] in
theorem ok_cons {i : PIt} {k : List PIt} (h : ∀ x ∈ i :: k, x.Ok body) : i.Ok body ∧ ∀ x ∈ k, x.Ok body := ⟨h _ List.mem_cons_self, fun x hx => h x (List.mem_cons_of_mem _ hx)⟩
omit [LC] in
theorem cons_ok {i : PIt} {k : List PIt} (h : i.Ok body) (k' : ∀ x ∈ k, x.Ok body) : ∀ x ∈ i :: k, x.Ok body := fun x hx => by
  rcases List.mem_cons.1 hx with rfl | hx
  · exact h
  · exact k' x hx
omit [LC] in
theorem code_sub {kd : Nat} {p : List Nat} {c : Code} (h : (PIt.mk kd p (.code c)).Ok body) : sub body p = c := itemAt_code h
omit [LC] in
theorem child_ok {p : List Nat} {c : Code} (i : Nat) {x : Code} (h : sub body p = c) (hc : child i c = x) : (PIt.mk 0 (i :: p) (.code x)).Ok body := by
  show Item.code x = .code (child i (sub body p))
  rw [h, hc]
omit [LC] in
theorem block_ok {p : List Nat} {id : Nat} {x : Code} (h : sub body p = .block id x) : (PIt.mk 1 p (.inBlock id)).Ok body := by
  show Item.inBlock id = (match sub body p with | .block id _ => .inBlock id | c => .code c)
  rw [h]
omit [LC] in
theorem loop_item_ok {p : List Nat} {x : Code} (h : sub body p = .loop x) : (PIt.mk 2 p (.inLoop x)).Ok body := by
  show Item.inLoop x = (match sub body p with | .loop x => .inLoop x | c => .code c)
  rw [h]
omit [LC] in
theorem exitP_none {id : Nat} : ∀ {k : List PIt}, exitP id k = none → (∀ i ∈ k, i.Ok body) → exitTo id (items k) = none
  | [], _, _ => rfl
  | ⟨kd, p, it⟩ :: k, h, hk => by
    simp only [exitP] at h
    have hk' := (ok_cons hk).2
    split at h
    · rename_i id'
      split at h
      · cases h
      · rename_i he
        simp only [items, exitTo]; rw [if_neg he]; exact exitP_none h hk'
    · rename_i hne
      have := exitP_none h hk'
      simp only [items]
      cases it <;> first
        | (exfalso; exact hne _ rfl)
        | (simp only [exitTo]; exact this)
abbrev IH (cx : Cx) (hp₀ : List (Nat × Box)) {R : Type} (enc : RS R) (body : Code) (labs : List (Lab R)) (n : Nat) : Prop :=
  ∀ (chk : Bool) (k : List PIt) (s : St) (r : R), (∀ i ∈ k, i.Ok body) → run cx enc labs n chk k s = some r → Goes cx hp₀ enc (items k) s r
def runCode (cx : Cx) {R : Type} (enc : RS R) (labs : List (Lab R)) (n : Nat) (p : List Nat) (k' : List PIt) (s : St) (c : Code) : Option R := match c with
  | .skip => run cx enc labs n true k' s
  | .label _ => run cx enc labs n true k' s
  | .seq x y => run cx enc labs n true (⟨0, 0 :: p, .code x⟩ :: ⟨0, 1 :: p, .code y⟩ :: k') s
  | .cond c x y => match s.ev c with
    | some (.bool b) => bif b then run cx enc labs n true (⟨0, 0 :: p, .code x⟩ :: k') (s.know c true) else run cx enc labs n true (⟨0, 1 :: p, .code y⟩ :: k') (s.know c false)
    | some (.val (.bool b)) => bif b then run cx enc labs n true (⟨0, 0 :: p, .code x⟩ :: k') s else run cx enc labs n true (⟨0, 1 :: p, .code y⟩ :: k') s
    | _ => none
  | .block id x => run cx enc labs n true (⟨0, 0 :: p, .code x⟩ :: ⟨1, p, .inBlock id⟩ :: k') s
  | .loop x => run cx enc labs n true (⟨0, 0 :: p, .code x⟩ :: ⟨2, p, .inLoop x⟩ :: k') s
  | .exit id => match exitP id k' with
    | some k'' => run cx enc labs n true k'' s
    | none => match cx.rd with
      | some _ => endq cx enc (some (.exit id)) s
      | none => none
  | .region _ ops d => bif d then drawR cx.P cx.tb ops s (fun s' => run cx enc labs n true k' s'.bump) else opsR cx.P cx.tb ops ops.toList s (fun s' => run cx enc labs n true k' s'.bump)
  | .ret => endq cx enc (some .ret) s
  | .rangeFunc g ps _ _ => rfR cx p g ps.toList s fun j s' => match j with
    | none => run cx enc labs n true k' s'
    | some .ret => endq cx enc (some .ret) s'
    | some (.exit id) => match exitP id k' with
      | some k'' => run cx enc labs n true k'' s'
      | none => match cx.rd with
        | some _ => endq cx enc (some (.exit id)) s'
        | none => none
  | _ => none
theorem run_cond {labs : List (Lab R)} {n : Nat} (ih : IH cx hp₀ enc body labs n) {p : List Nat} {k' : List PIt} {c : Operand} {x y : Code} {r : R} (hsub : sub body p = .cond c x y) (hk' : ∀ i ∈ k', i.Ok body) (h : runCode cx enc labs n p k' s (.cond c x y) = some r) : Goes cx hp₀ enc (.code (.cond c x y) :: items k') s r := by
  unfold runCode at h
  simp only at h
  split at h
  · rename_i t ht
    cases t <;> simp only [cond_true, cond_false] at h
    · refine (ih true _ _ r (cons_ok (child_ok 1 hsub rfl) hk') h).via fun w₀ G₀ G a w hr b cs _ _ _ => ?_
      have he : a.eval c = .bool false := ev_ok hr ht
      exact ⟨G, a, w, hr.know he, .one (stepR_cond he)⟩
    · refine (ih true _ _ r (cons_ok (child_ok 0 hsub rfl) hk') h).via fun w₀ G₀ G a w hr b cs _ _ _ => ?_
      have he : a.eval c = .bool true := ev_ok hr ht
      exact ⟨G, a, w, hr.know he, .one (stepR_cond he)⟩
  · rename_i t ht
    cases t <;> simp only [cond_true, cond_false] at h
    · refine (ih true _ _ r (cons_ok (child_ok 1 hsub rfl) hk') h).via fun w₀ G₀ G a w hr b cs _ _ _ => ?_
      have he : a.eval c = .bool false := ev_ok hr ht
      exact ⟨G, a, w, hr, .one (stepR_cond he)⟩
    · refine (ih true _ _ r (cons_ok (child_ok 0 hsub rfl) hk') h).via fun w₀ G₀ G a w hr b cs _ _ _ => ?_
      have he : a.eval c = .bool true := ev_ok hr ht
      exact ⟨G, a, w, hr, .one (stepR_cond he)⟩
  · cases h
theorem run_region (ok : cx.Ok body) {labs : List (Lab R)} {n : Nat} (ih : IH cx hp₀ enc body labs n) {p : List Nat} {k' : List PIt} {id : Nat} {ops : Array Oper} {d : Bool} {r : R} (hk' : ∀ i ∈ k', i.Ok body) (h : runCode cx enc labs n p k' s (.region id ops d) = some r) : Goes cx hp₀ enc (.code (.region id ops d) :: items k') s r := by
  unfold runCode at h
  simp only at h
  cases d <;> simp only [cond_true, cond_false] at h
  · intro w₀ G₀ G a w hr b cs hb hkd hrd
    have hops := opsR_ok (P := cx.P) (ops := ops) ok.ents (N := fun a' w' => Arrives cx.P b.roundOf cx.f (lone (b.atR a' (items k')) cs w') cs fun v w' => ∃ G', Fin w₀ G₀ hp₀ G' (enc.res r).2 w' ∧ Rep (enc.res r).1 G' v)
      (fun s' h' G' a' w' hr' => ih true k' s'.bump r hk' h' w₀ G₀ G' a' w' hr'.bump b cs hb hkd hrd) ops.toList 0 s G a w (fun j hj => by simp) h hr
    have e : List.range' 0 ops.toList.length = List.range ops.size := by simp [List.range_eq_range']
    rw [e] at hops
    obtain ⟨a', w', h1, h2⟩ := dRegion (id := id) hops b (items k') cs hkd
    exact h1.head h2
  · intro w₀ G₀ G a w hr b cs hb hkd hrd
    obtain ⟨a', w', h1, h2⟩ := drawR_ok (P := cx.P) ok.ents ok.mixed h (N := fun a' w' => Arrives cx.P b.roundOf cx.f (lone (b.atR a' (items k')) cs w') cs fun v w' => ∃ G', Fin w₀ G₀ hp₀ G' (enc.res r).2 w' ∧ Rep (enc.res r).1 G' v)
      (fun s' h' G' a' w' hr' => ih true k' s'.bump r hk' h' w₀ G₀ G' a' w' hr'.bump b cs hb hkd hrd) hr id b (items k') cs hkd
    exact h1.head h2
theorem run_exit (ok : cx.Ok body) (hid : ∀ n bx, look hp₀ n = some bx → lookN cx.ids n = some n) {labs : List (Lab R)} {n : Nat} (ih : IH cx hp₀ enc body labs n) {k' : List PIt} {id : Nat} {r : R} (hk' : ∀ i ∈ k', i.Ok body)
    (h : (match exitP id k' with
      | some k'' => run cx enc labs n true k'' s
      | none => match cx.rd with
        | some _ => endq cx enc (some (.exit id)) s
        | none => none) = some r) : Goes cx hp₀ enc (.code (.exit id) :: items k') s r := by
  split at h
  · rename_i k'' hx
    obtain ⟨h1, h2⟩ := exitP_some hx
    exact (ih true k'' s r (fun i hi => hk' i (h2 i hi)) h).one fun a w b cs => stepR_exit h1
  · rename_i hx
    split at h
    · rename_i m hm
      exact endq_ok ok hid (j := some (.exit id)) ⟨by rw [hm]; simp, _, rfl, exitP_none hx hk'⟩ h
    · cases h
theorem run_range (ok : cx.Ok body) (hid : ∀ n bx, look hp₀ n = some bx → lookN cx.ids n = some n) {labs : List (Lab R)} {n : Nat} (ih : IH cx hp₀ enc body labs n) {p : List Nat} {k' : List PIt} {g : Operand} {ps : Array Tmp} {as bo : Code} {r : R} (hsub : sub body p = .rangeFunc g ps as bo) (hk' : ∀ i ∈ k', i.Ok body)
    (h : runCode cx enc labs n p k' s (.rangeFunc g ps as bo) = some r) : Goes cx hp₀ enc (.code (.rangeFunc g ps as bo) :: items k') s r := by
  unfold runCode at h
  simp only at h
  intro w₀ G₀ G a w hr b cs hb hkd hrd
  obtain ⟨j, s', G', a', w', h1, h2, h3⟩ := rfR_ok ok hr hsub h cs hb hkd hrd (items k')
  refine Arrives.head h3 ?_
  cases j with
  | none => exact ih true k' s' r hk' h1 w₀ G₀ G' a' w' h2 b cs hb hkd hrd
  | some j => cases j with
    | ret => exact endq_ok ok hid (j := some .ret) (k := .code .ret :: items k') ⟨_, rfl⟩ h1 w₀ G₀ G' a' w' h2 b cs hb hkd hrd
    | exit id => exact run_exit ok hid ih hk' h1 w₀ G₀ G' a' w' h2 b cs hb hkd hrd
theorem run_code (ok : cx.Ok body) (hid : ∀ n bx, look hp₀ n = some bx → lookN cx.ids n = some n) {labs : List (Lab R)} {n : Nat} (ih : IH cx hp₀ enc body labs n) {kd : Nat} {p : List Nat} {k' : List PIt} {c : Code} {r : R} (hi : (PIt.mk kd p (.code c)).Ok body) (hk' : ∀ i ∈ k', i.Ok body)
    (h : runCode cx enc labs n p k' s c = some r) : Goes cx hp₀ enc (.code c :: items k') s r := by
  have hsub := code_sub hi
  cases c with
  | skip => exact (ih true k' s r hk' h).one fun a w b cs => stepR_skip
  | label l => exact (ih true k' s r hk' h).one fun a w b cs => stepR_label
  | seq x y => exact (ih true _ s r (cons_ok (child_ok 0 hsub rfl) (cons_ok (child_ok 1 hsub rfl) hk')) h).one fun a w b cs => stepR_seq
  | cond c x y => exact run_cond ih hsub hk' h
  | block id x => exact (ih true _ s r (cons_ok (child_ok 0 hsub rfl) (cons_ok (block_ok hsub) hk')) h).one fun a w b cs => stepR_block
  | loop x => exact (ih true _ s r (cons_ok (child_ok 0 hsub rfl) (cons_ok (loop_item_ok hsub) hk')) h).one fun a w b cs => stepR_loop
  | exit id => exact run_exit ok hid ih hk' h
  | region id ops d => exact run_region ok ih hk' h
  | ret => exact endq_ok ok hid (j := some .ret) ⟨_, rfl⟩ h
  | rangeFunc g ps as bo => exact run_range ok hid ih hsub hk' h
  | _ => cases h
theorem run_begin {labs : List (Lab R)} {n : Nat} (ih : IH cx hp₀ enc body labs n) {k' : List PIt} {r : R} (hk' : ∀ i ∈ k', i.Ok body)
    (h : (match cx.rd with
      | some m => match look s.hp m with
        | some (.loop .ready pe f n' fr ps tag D) => run cx enc labs n true k' { s with hp := (m, .loop .busy pe f n' fr ps tag D) :: s.hp }
        | _ => none
      | none => none) = some r) : Goes cx hp₀ enc (.beginRound :: items k') s r := by
  split at h
  · rename_i m hm
    split at h
    · rename_i pe f n' fr ps tag D hl
      refine (ih true k' _ r hk' h).via fun w₀ G₀ G a w hr b cs _ _ hrd => ?_
      unfold RdOk at hrd
      rw [hm] at hrd
      simp only at hrd
      obtain ⟨B, bx0, e1, e2, e3⟩ := hrd
      obtain ⟨B', tmps, DB, i1, i2, ⟨as, bo, i3, i4⟩, i5, i6, i7⟩ := hr.fin.mem.holds _ _ hl
      have := hr.fin.keep m bx0 B e2 e1
      rw [this] at i1; injection i1 with i1; subst i1
      have hbr := run_beginRound (P := cx.P) i4 rfl
      exact ⟨G, a, _, hr.setBox (bx' := .loop .busy pe f n' fr ps tag D) hl (show G.box m = some B from this)
        (fun c hc => by have hc : G.box m = some c := hc; rw [this] at hc; injection hc with hc; exact hc.symm)
        ⟨B, tmps, DB, this, i2, ⟨as, bo, i3, by rw [World.putObj_heap_same (Array.getElem?_eq_some_iff.1 i4).1]⟩, i5, i6, i7⟩ i7, .one (stepR_beginRound e3 hbr)⟩
    · cases h
  · cases h
theorem run_ok (ok : cx.Ok body) (hid : ∀ n bx, look hp₀ n = some bx → lookN cx.ids n = some n) {labs : List (Lab R)} (hlab : ∀ l ∈ labs, LabOk cx hp₀ enc body l) :
    ∀ (n : Nat) (chk : Bool) (k : List PIt) (s : St) (r : R), (∀ i ∈ k, i.Ok body) → run cx enc labs n chk k s = some r → Goes cx hp₀ enc (items k) s r := by
  intro n
  induction n with
  | zero => intro chk k s r _ h; cases h
  | succ n ih =>
    intro chk k s r hk h
    unfold run at h
    cases hl : (bif chk then findLab k labs else none) with
    | some lab =>
      rw [hl] at h
      have hl : findLab k labs = some lab := by cases chk <;> simp only [cond_true, cond_false, reduceCtorEq] at hl; exact hl
      obtain ⟨hm, hkey⟩ := findLab_mem hl
      simp only at h
      split at h
      · rename_i d hd
        have hg := hlab lab hm d r h
        rw [eqKey_items hkey hk] at hg
        refine hg.via fun w₀ G₀ G a w hr b cs _ _ _ => ?_
        obtain ⟨G1, hr1⟩ := hr.co lab.ls cx.ids
        obtain ⟨G2, hr2⟩ := hr1.fit hid hd
        exact ⟨G2, a, w, hr2, .refl _ _⟩
      · cases h
    | none =>
      rw [hl] at h
      simp only at h
      clear hl
      cases k with
      | nil => exact endq_ok ok hid (by rfl) h
      | cons i k' =>
        obtain ⟨kd, p, it⟩ := i
        obtain ⟨hi, hk'⟩ := ok_cons hk
        clear hk
        cases it with
        | code c => exact run_code ok hid ih hi hk' h
        | inBlock id => exact (ih true k' s r hk' h).one fun a w b cs => stepR_inBlock
        | inLoop x =>
          have hsub : sub body p = .loop x := itemAt_loop hi
          exact (ih true _ s r (cons_ok (child_ok 0 hsub rfl) (cons_ok (loop_item_ok hsub) hk')) h).one fun a w b cs => stepR_inLoop
        | beginRound => exact run_begin ih hk' h
        | _ => cases h
end
end Go.Sym
/- Own slices in boxes under new names. -/
namespace Go.Sym
open Go.RowKit
variable [LC]

/-- the own slice in a cell of a box, under a new name -/
def St.reCell (s : St) (b off : Nat) : St :=
  match look s.hp b with
  | some (.cells cs T) => match cs[off]? with
    | some (.own k) => match look s.hp k with
      | some (.row τ l E) => bif noRange s.nx s.hp then { s with hp := (b, .cells (cs.set off (.own s.nx)) T) :: (s.nx, .row τ l E) :: (k, .dead) :: s.hp, nx := s.nx + 16 } else s
      | _ => s
    | _ => s
  | _ => s
def isOwnP : Pt → Bool
  | .own _ => true
  | _ => false
def reB1 (b : Nat) : List Pt → Nat → St → St
  | [], _, s => s
  | p :: ps, off, s => reB1 b ps (off + 1) (bif isOwnP p then s.reCell b off else s)
def reB : List (Nat × BPt) → St → St
  | [], s => s
  | (n, p) :: r, s => match p with
    | .cells ps _ => reB r (reB1 n ps 0 s)
    | _ => reB r s
/-- the own slice in a slot, under a new name -/
def St.reSlot (s : St) (i : Nat) : St :=
  match look s.fr i with
  | some (.own k) => match look s.hp k with
    | some (.row τ l E) => bif noRange s.nx s.hp && Nat.blt i s.n then { s with fr := (i, .own s.nx) :: s.fr, hp := (s.nx, .row τ l E) :: (k, .dead) :: s.hp, nx := s.nx + 16 } else s
    | _ => s
  | _ => s
def reA : List Pt → Nat → St → St
  | [], _, s => s
  | p :: ps, i, s => reA ps (i + 1) (bif isOwnP p then s.reSlot i else s)
section
variable {w₀ : World} {G₀ : Gh} {hp₀ : List (Nat × Box)} {G : Gh} {s : St} {a : Act} {w : World}
theorem Fin.rename {hp : List (Nat × Box)} (hf : Fin w₀ G₀ hp₀ G hp w) {k k' : Nat} {τ : Ty} {l : List τ.den} {E : TypeId} {v : Option Addr × Nat × Nat} (hk : look hp k = some (.row τ l E)) (hk' : look hp k' = none) (hfr : G.own k' = none) (ho : G.own k = some v) :
    Fin w₀ G₀ hp₀ (G.addOwn k' v) ((k', .row τ l E) :: (k, .dead) :: hp) w := by
  have hle : G.le (G.addOwn k' v) := Gh.addOwn_le hfr
  have hlk : ∀ m b, look ((k', Box.row τ l E) :: (k, .dead) :: hp) m = some b → (m = k' ∧ b = .row τ l E) ∨ b = .dead ∨ (m ≠ k ∧ look hp m = some b) := fun m b h => by
    simp only [look] at h
    cases hb : Nat.beq k' m
    · rw [hb] at h
      cases hb2 : Nat.beq k m
      · rw [hb2] at h; exact .inr (.inr ⟨fun e => by subst e; simp at hb2, h⟩)
      · rw [hb2] at h; simp only [cond_true, cond_false, Option.some.injEq] at h; exact .inr (.inl h.symm)
    · rw [hb] at h; simp only [cond_true, Option.some.injEq] at h; exact .inl ⟨(Nat.eq_of_beq_eq_true hb).symm, h.symm⟩
  have hat : (G.addOwn k' v).at k' (.row τ l E) = G.at k (.row τ l E) := by simp only [Gh.at, Gh.addOwn_self, ho]
  refine ⟨⟨hf.mem.agree, hf.mem.one, ?_, ?_⟩, hf.bel, hf.imm_le, hf.imm_new, ?_, fun n bx B h1 h2 => hle.box _ _ (hf.keep n bx B h1 h2), fun n bx B h1 h2 => hle.own _ _ (hf.keepOwn n bx B h1 h2)⟩
  · intro m b h
    rcases hlk m b h with ⟨rfl, rfl⟩ | rfl | ⟨_, h⟩
    · obtain ⟨ad, c, i1, i2⟩ := hf.mem.holds k _ hk
      rw [ho] at i1; injection i1 with i1; subst i1
      exact ⟨ad, c, Gh.addOwn_self, i2⟩
    · trivial
    · exact (hf.mem.holds m b h).mono hle (fun _ _ => rfl) (fun _ _ _ h => .inl h)
  · intro m m' b b' c h1 h2 h3 h4
    rcases hlk m b h1 with ⟨rfl, rfl⟩ | rfl | ⟨n1, g1⟩ <;> rcases hlk m' b' h2 with ⟨e2, rfl⟩ | rfl | ⟨n2, g2⟩
    · exact e2.symm
    · cases h4
    · rw [hat] at h3
      rw [(hf.mem.holds m' b' g2).at_le hle] at h4
      exact absurd (hf.mem.apart m' k b' _ c g2 hk h4 h3) n2
    · cases h3
    · cases h3
    · cases h3
    · subst e2
      rw [hat] at h4
      rw [(hf.mem.holds m b g1).at_le hle] at h3
      exact absurd (hf.mem.apart m k b _ c g1 hk h3 h4) n1
    · cases h4
    · rw [(hf.mem.holds m b g1).at_le hle] at h3
      rw [(hf.mem.holds m' b' g2).at_le hle] at h4
      exact hf.mem.apart m m' b b' c g1 g2 h3 h4
  · intro m b c h1 h2
    rcases hlk m b h1 with ⟨rfl, rfl⟩ | rfl | ⟨n1, h1⟩
    · rw [hat] at h2; exact hf.base k _ c hk h2
    · cases h2
    · rw [(hf.mem.holds m b h1).at_le hle] at h2
      exact hf.base m b c h1 h2
theorem Rel.reCell (hr : Rel w₀ G₀ hp₀ G s a w) (b off : Nat) : ∃ G', Rel w₀ G₀ hp₀ G' (s.reCell b off) a w := by
  unfold St.reCell
  split
  · rename_i cs T hb0
    split
    · rename_i k hx0
      split
      · rename_i τ l E hk0
        cases hn : noRange s.nx s.hp
        · exact ⟨G, hr⟩
        · simp only [cond_true]
          have hk := noRange_look hn s.nx (Nat.le_refl _) (by omega)
          obtain ⟨ad, c, i1, _⟩ := hr.fin.mem.holds k _ hk0
          have hfresh := hr.fresh s.nx (Nat.le_refl _) hk
          have hle : G.le (G.addOwn s.nx (ad, l.length, c)) := Gh.addOwn_le hfresh.2
          have hf := hr.fin.rename hk0 hk hfresh.2 i1
          have hne : s.nx ≠ b := fun e => by rw [e, hb0] at hk; cases hk
          have hne2 : k ≠ b := fun e => by rw [e, hb0] at hk0; cases hk0
          have hb1 : look ((s.nx, Box.row τ l E) :: (k, .dead) :: s.hp) b = some (.cells cs T) := by
            simp only [look]
            cases hq : Nat.beq s.nx b
            · cases hq2 : Nat.beq k b
              · exact hb0
              · exact absurd (Nat.eq_of_beq_eq_true hq2) hne2
            · exact absurd (Nat.eq_of_beq_eq_true hq) hne
          obtain ⟨B, vs, k1, k2, k3, k4, k5⟩ := hf.mem.holds _ _ hb1
          have hv : vs.toList[off]? = some (.slice ad l.length c) := by
            obtain ⟨v, h1, h2⟩ := reps_get k3 hx0
            obtain ⟨a', n', c', q1, q2⟩ := h2
            rw [hle.own _ _ i1] at q1
            simp only [Option.some.injEq, Prod.mk.injEq] at q1
            obtain ⟨rfl, rfl, rfl⟩ := q1
            subst q2; exact h1
          have hset : vs.toList.set off (.slice ad l.length c) = vs.toList := by
            obtain ⟨hlt, he⟩ := List.getElem?_eq_some_iff.1 hv
            rw [← he, List.set_getElem_self]
          refine ⟨G.addOwn s.nx (ad, l.length, c), ⟨by obtain ⟨bs, q1, q2⟩ := hr.defers; exact ⟨bs, q1, defers_le hle.box q2⟩, hr.size, fun j x hx => by obtain ⟨v, h1, h2⟩ := hr.frame j x hx; exact ⟨v, h1, h2.le hle⟩, fun m hm hl => ?_, ?_⟩⟩
          · simp only at hm
            have hmn : s.nx ≠ m := by omega
            simp only [look] at hl
            cases hq : Nat.beq b m <;> rw [hq] at hl <;> simp only [cond_true, cond_false, reduceCtorEq] at hl
            cases hq1 : Nat.beq s.nx m <;> rw [hq1] at hl <;> simp only [cond_true, cond_false, reduceCtorEq] at hl
            cases hq2 : Nat.beq k m <;> rw [hq2] at hl <;> simp only [cond_true, cond_false, reduceCtorEq] at hl
            obtain ⟨h1, h2⟩ := hr.fresh m (by omega) hl
            refine ⟨h1, ?_⟩
            show (bif Nat.beq m s.nx then some _ else G.own m) = none
            cases hbm : Nat.beq m s.nx
            · exact h2
            · exact absurd (Nat.eq_of_beq_eq_true hbm).symm hmn
          · refine hf.update (bx := .cells cs T) (bx' := .cells (cs.set off (.own s.nx)) T) hb1 (B := B) k1 k1 ⟨rfl, rfl, rfl, Nat.le_refl _, fun _ _ _ => rfl⟩ ⟨B, vs, k1, k2, ?_, k4, k5⟩ k5
            have := reps_set off k3 (x := .own s.nx) (v := .slice ad l.length c) ⟨ad, l.length, c, Gh.addOwn_self, rfl⟩
            rwa [hset] at this
      · exact ⟨G, hr⟩
    · exact ⟨G, hr⟩
  · exact ⟨G, hr⟩
theorem Rel.reSlot (hr : Rel w₀ G₀ hp₀ G s a w) (i : Nat) : ∃ G', Rel w₀ G₀ hp₀ G' (s.reSlot i) a w := by
  unfold St.reSlot
  split
  · rename_i k hx0
    split
    · rename_i τ l E hk0
      cases hn : noRange s.nx s.hp && Nat.blt i s.n
      · exact ⟨G, hr⟩
      · simp only [cond_true]
        simp only [Bool.and_eq_true] at hn
        have hk := noRange_look hn.1 s.nx (Nat.le_refl _) (by omega)
        obtain ⟨ad, c, i1, _⟩ := hr.fin.mem.holds k _ hk0
        have hfresh := hr.fresh s.nx (Nat.le_refl _) hk
        have hle : G.le (G.addOwn s.nx (ad, l.length, c)) := Gh.addOwn_le hfresh.2
        refine ⟨G.addOwn s.nx (ad, l.length, c), ⟨by obtain ⟨bs, q1, q2⟩ := hr.defers; exact ⟨bs, q1, defers_le hle.box q2⟩, hr.size, fun j x hx => ?_, fun m hm hl => ?_, hr.fin.rename hk0 hk hfresh.2 i1⟩⟩
        · simp only [look] at hx
          cases hq : Nat.beq i j
          · rw [hq] at hx
            obtain ⟨v, h1, h2⟩ := hr.frame j x hx
            exact ⟨v, h1, h2.le hle⟩
          · rw [hq] at hx; simp only [cond_true, Option.some.injEq] at hx; subst hx
            have := Nat.eq_of_beq_eq_true hq; subst this
            obtain ⟨v, h1, a', n', c', q1, q2⟩ := hr.frame i _ hx0
            rw [i1] at q1
            simp only [Option.some.injEq, Prod.mk.injEq] at q1
            obtain ⟨rfl, rfl, rfl⟩ := q1
            exact ⟨v, h1, ad, l.length, c, Gh.addOwn_self, q2⟩
        · simp only at hm
          have hmn : s.nx ≠ m := by omega
          simp only [look] at hl
          cases hq1 : Nat.beq s.nx m <;> rw [hq1] at hl <;> simp only [cond_true, cond_false, reduceCtorEq] at hl
          cases hq2 : Nat.beq k m <;> rw [hq2] at hl <;> simp only [cond_true, cond_false, reduceCtorEq] at hl
          obtain ⟨h1, h2⟩ := hr.fresh m (by omega) hl
          refine ⟨h1, ?_⟩
          show (bif Nat.beq m s.nx then some _ else G.own m) = none
          cases hbm : Nat.beq m s.nx
          · exact h2
          · exact absurd (Nat.eq_of_beq_eq_true hbm).symm hmn
    · exact ⟨G, hr⟩
  · exact ⟨G, hr⟩
theorem Rel.reA : ∀ {ps : List Pt} {i : Nat} {s : St} {G : Gh}, Rel w₀ G₀ hp₀ G s a w → ∃ G', Rel w₀ G₀ hp₀ G' (reA ps i s) a w
  | [], _, s, G, hr => ⟨G, hr⟩
  | p :: ps, i, s, G, hr => by
    unfold Sym.reA
    cases isOwnP p
    · exact Rel.reA hr
    · obtain ⟨G', hr'⟩ := hr.reSlot i
      exact Rel.reA hr'
theorem Rel.reB1 {b : Nat} : ∀ {ps : List Pt} {off : Nat} {s : St} {G : Gh}, Rel w₀ G₀ hp₀ G s a w → ∃ G', Rel w₀ G₀ hp₀ G' (reB1 b ps off s) a w
  | [], _, s, G, hr => ⟨G, hr⟩
  | p :: ps, off, s, G, hr => by
    unfold Sym.reB1
    cases isOwnP p
    · exact Rel.reB1 hr
    · obtain ⟨G', hr'⟩ := hr.reCell b off
      exact Rel.reB1 hr'
theorem Rel.reB : ∀ {l : List (Nat × BPt)} {s : St} {G : Gh}, Rel w₀ G₀ hp₀ G s a w → ∃ G', Rel w₀ G₀ hp₀ G' (reB l s) a w
  | [], s, G, hr => ⟨G, hr⟩
  | (n, p) :: r, s, G, hr => by
    unfold Sym.reB
    split
    · obtain ⟨G', hr'⟩ := hr.reB1
      exact Rel.reB hr'
    · exact Rel.reB hr
end
end Go.Sym
/- Entries out of bodies. -/
namespace Go.Sym
open Go.RowKit
variable [LC]

def idsB : List (Nat × BPt) → NM
  | [] => []
  | (n, _) :: r => (n, n) :: idsB r
def inN (N : NM) (n : Nat) : Bool := match rho N n with
  | some m => Nat.beq m n
  | none => false
omit [LC] in
theorem inN_eq {N : NM} {n : Nat} (h : inN N n = true) : rho N n = some n := by
  unfold inN at h
  split at h
  · rename_i m hm
    have := Nat.eq_of_beq_eq_true h; subst this; exact hm
  · cases h
mutual
def ptIn (N : NM) : Pt → Bool
  | .agg ps => ptsIn N ps
  | .tup ps => ptsIn N ps
  | .ptr b _ => inN N b
  | .own k => inN N k
  | .el k _ => inN N k
  | .yld k => inN N k
  | .fn _ ps => ptsIn N ps
  | _ => true
def ptsIn (N : NM) : List Pt → Bool
  | [] => true
  | p :: ps => ptIn N p && ptsIn N ps
end
omit [LC] in
theorem av_ren {ρ : Nat → Option Nat} : ∀ {τ : Ty} {d : τ.den}, (τ.av d).ren ρ = τ.av d
  | .int _, _ => rfl
  | .byte, _ => rfl
  | .bool, _ => rfl
  | .str, _ => rfl
  | .unit, _ => rfl
  | .list _, _ => rfl
  | .prod a b, d => by show AV.agg (AV.rens ρ ((Ty.prod a b).enc d)) = _; rw [Ty.enc_ren]; rfl
  | .tree a, d => by show AV.agg (AV.rens ρ ((Ty.tree a).enc d)) = _; rw [Ty.enc_ren]; rfl
omit [LC] in
mutual
theorem put_ren {N : NM} : ∀ {p : Pt} {d : p.den}, ptIn N p = true → (p.put d).ren (rho N) = p.put d
  | .h τ, d, _ => av_ren
  | .c _, _, _ => rfl
  | .agg ps, d, h => congrArg AV.agg (puts_ren (ps := ps) (d := d) h)
  | .tup ps, d, h => congrArg AV.tup (puts_ren (ps := ps) (d := d) h)
  | .ptr b off, _, h => by show AV.ren (rho N) (.ptr b off) = _; simp only [AV.ren, inN_eq (show inN N b = true from h)]; rfl
  | .own k, _, h => by show AV.ren (rho N) (.own k) = _; simp only [AV.ren, inN_eq (show inN N k = true from h)]; rfl
  | .arr _, _, _ => rfl
  | .el k sz, _, h => by show AV.ren (rho N) (.oel k sz 0 0) = _; simp only [AV.ren, inN_eq (show inN N k = true from h)]; rfl
  | .yld k, _, h => by show AV.ren (rho N) (.yld k) = _; simp only [AV.ren, inN_eq (show inN N k = true from h)]; rfl
  | .fn f ps, d, h => congrArg (AV.fn (.func f) []) (puts_ren (ps := ps) (d := d) h)
  | .u, _, _ => rfl
theorem puts_ren {N : NM} : ∀ {ps : List Pt} {d : Pts.den ps}, ptsIn N ps = true → AV.rens (rho N) (Pts.put ps d) = Pts.put ps d
  | [], _, _ => rfl
  | p :: ps, d, h => by
    simp only [ptsIn, Bool.and_eq_true] at h
    have h1 := put_ren (p := p) (d := d.1) h.1
    have h2 := puts_ren (ps := ps) (d := d.2) h.2
    show AV.ren (rho N) (p.put d.1) :: AV.rens (rho N) (Pts.put ps d.2) = p.put d.1 :: Pts.put ps d.2
    rw [h1, h2]
end
def fIn (N : NM) : List (Nat × Pt) → Bool
  | [] => true
  | (_, p) :: r => ptIn N p && fIn N r
omit [LC] in
theorem fput_ren {N : NM} : ∀ {l : List (Nat × Pt)} {d : fden l}, fIn N l = true → renFr (rho N) (fput l d) = fput l d
  | [], _, _ => rfl
  | (i, p) :: r, d, h => by
    simp only [fIn, Bool.and_eq_true] at h
    have h1 := put_ren (p := p) (d := d.1) h.1
    have h2 := fput_ren (l := r) (d := d.2) h.2
    show (i, AV.ren (rho N) (p.put d.1)) :: renFr (rho N) (fput r d.2) = (i, p.put d.1) :: fput r d.2
    rw [h1, h2]
def bptIn (N : NM) : BPt → Bool
  | .cells ps _ => ptsIn N ps
  | .loop _ _ _ _ fr _ _ D => inN N D && fIn N fr
  | _ => true
def bIn (N : NM) : List (Nat × BPt) → Bool
  | [] => true
  | (n, p) :: r => inN N n && bptIn N p && bIn N r
omit [LC] in
theorem bptIn_ren {N : NM} : ∀ {p : BPt} {d : p.den}, bptIn N p = true → renB (rho N) (p.put d) = p.put d
  | .cells ps T, d, h => congrArg (fun l => Box.cells l T) (puts_ren (ps := ps) (d := d) h)
  | .row _ _, _, _ => rfl
  | .loop st pe f n fr ps tag D, d, h => by
    simp only [bptIn, Bool.and_eq_true] at h
    have h2 := fput_ren (l := fr) (d := d) h.2
    have h3 : renB (rho N) (.loop st pe f n (fput fr d) ps tag D) = .loop st pe f n (renFr (rho N) (fput fr d)) ps tag D := by simp only [renB, inN_eq h.1]
    exact h3.trans (congrArg (fun l => Box.loop st pe f n l ps tag D) h2)
  | .dfr, _, _ => rfl
  | .dead, _, _ => rfl
  | .dat τ T, d, _ => congrArg (fun l => Box.cells l T) (Ty.enc_ren (rho N) τ d)
omit [LC] in
theorem bIn_look {N : NM} : ∀ {l : List (Nat × BPt)} {d : bden l}, bIn N l = true → ∀ n b, look (bput l d) n = some b → rho N n = some n ∧ renB (rho N) b = b
  | [], _, _, _, _, h => by cases h
  | (m, p) :: r, d, h, n, b, hl => by
    simp only [bIn, Bool.and_eq_true] at h
    have hl : (bif Nat.beq m n then some (p.put d.1) else look (bput r d.2) n) = some b := hl
    cases hb : Nat.beq m n
    · rw [hb] at hl; exact bIn_look (d := d.2) h.2 n b hl
    · rw [hb] at hl; have := Nat.eq_of_beq_eq_true hb; subst this
      simp only [cond_true, Option.some.injEq] at hl; subst hl
      exact ⟨inN_eq h.1.1, bptIn_ren h.1.2⟩
/-- only the names of the memory handed in -/
theorem Mem.only {G : Gh} {hp : List (Nat × Box)} {w : World} {N : NM} (hm : Mem G hp w) (h : ∀ n b, look hp n = some b → rho N n = some n ∧ renB (rho N) b = b) : Mem (G.view N) hp w := by
  have hb : ∀ n b, look hp n = some b → (G.view N).box n = G.box n ∧ (G.view N).own n = G.own n := fun n b hl => by
    have := rho_spec (h n b hl).1
    exact ⟨by simp [Gh.view, this], by simp [Gh.view, this]⟩
  have hat : ∀ n b c, look hp n = some b → (G.view N).at n b = some c → G.at n b = some c := fun n b c hl hc => by
    have := (h n b hl).2
    exact at_ren (G := G) (G' := G.view N) (ρ := rho N) (hb n b hl).1 (hb n b hl).2 (by rw [this]; exact hc)
  refine ⟨hm.agree, hm.one, fun n b hl => ?_, fun n m b b' c h1 h2 h3 h4 => hm.apart n m b b' c h1 h2 (hat _ _ _ h1 h3) (hat _ _ _ h2 h4)⟩
  have := BoxOk.ren (G := G) (G' := G.view N) (ρ := rho N) (n := n) (m := n) (fun _ _ _ h => h) (fun _ _ _ h => h) (view_box N) (view_own N) (fun B hB => by rw [(hb n b hl).1]; exact hB) (fun B hB => by rw [(hb n b hl).2]; exact hB) (hm.holds n b hl)
  rw [(h n b hl).2] at this
  exact this
theorem Fin.only {G G' : Gh} {hp hp' : List (Nat × Box)} {w w' : World} {N : NM} (h : ∀ n b, look hp n = some b → rho N n = some n ∧ renB (rho N) b = b) (hf : Fin w (G.view N) hp G' hp' w') : Fin w G hp G' hp' w' := by
  have hb : ∀ n b, look hp n = some b → (G.view N).box n = G.box n ∧ (G.view N).own n = G.own n := fun n b hl => by
    have := rho_spec (h n b hl).1
    exact ⟨by simp [Gh.view, this], by simp [Gh.view, this]⟩
  have hblk : ∀ c, blocks (G.view N) hp c → blocks G hp c := fun c ⟨n, b, h1, h2⟩ => ⟨n, b, h1, at_ren (G := G) (G' := G.view N) (ρ := rho N) (hb n b h1).1 (hb n b h1).2 (by rw [(h n b h1).2]; exact h2)⟩
  refine ⟨hf.mem, ⟨hf.bel.os, hf.bel.tape, hf.bel.output, hf.bel.size, fun k hk hS => hf.bel.block k hk fun hx => hS (hblk k hx)⟩, hf.imm_le, fun b o v hv => ?_, fun n b c h1 h2 => ?_, fun n b B h1 h2 => hf.keep n b B h1 (by rw [(hb n b h1).1]; exact h2), fun n b B h1 h2 => hf.keepOwn n b B h1 (by rw [(hb n b h1).2]; exact h2)⟩
  · rcases hf.imm_new b o v hv with h | h | h
    · exact .inl h
    · exact .inr (.inl h)
    · exact .inr (.inr (hblk _ h))
  · rcases hf.base n b c h1 h2 with h | h
    · exact .inl h
    · exact .inr (hblk _ h)

def initFr : List AV → Nat → List (Nat × AV)
  | [], _ => []
  | x :: xs, i => (i, x) :: initFr xs (i + 1)
omit [LC] in
theorem initFr_look : ∀ {xs : List AV} {G : Gh} {vs : List Value} (i : Nat), Reps xs G vs → ∀ j x, look (initFr xs i) j = some x → i ≤ j ∧ ∃ v, vs[j - i]? = some v ∧ Rep x G v
  | [], _, [], _, _, j, x, h => by cases h
  | x :: xs, G, v :: vs, i, hr, j, y, h => by
    simp only [initFr, look] at h
    cases hb : Nat.beq i j
    · rw [hb] at h
      obtain ⟨h1, u, h2, h3⟩ := initFr_look (i + 1) hr.2 j y h
      refine ⟨by omega, u, ?_, h3⟩
      rw [show j - i = (j - (i + 1)) + 1 by omega]; simpa using h2
    · rw [hb] at h; have := Nat.eq_of_beq_eq_true hb; subst this
      simp only [cond_true, Option.some.injEq] at h; subst h
      exact ⟨Nat.le_refl _, v, by simp, hr.1⟩
  | [], _, _ :: _, _, h, _, _, _ => h.elim
  | _ :: _, _, [], _, h, _, _, _ => h.elim
theorem blocks_self {G : Gh} {w : World} {hp : List (Nat × Box)} (hm : Mem G hp w) : Fin w G hp G hp w :=
  ⟨hm, ⟨rfl, rfl, rfl, Nat.le_refl _, fun _ _ _ => rfl⟩, fun _ _ _ h => h, fun _ _ _ h => .inl h, fun n bx _b h1 h2 => .inr ⟨n, bx, h1, h2⟩, fun _ _ _ _ h => h, fun _ _ _ _ h => h⟩
/-- where names of new memory begin -/
def NX : Nat := 64
/-- a function's body at these arguments -/
def runFn (cx : Cx) (body : Code) {R : Type} (enc : RS R) (labs : List (Lab R)) (as : List Pt) (pts : List (Nat × BPt)) (xs : List AV) (hp : List (Nat × Box)) : Option R :=
  run cx enc labs 1000000 true [⟨0, [], .code body⟩] (reB pts (reA (bif cx.tb.sub then as else []) 0 { n := cx.fn.ntmps, fr := initFr xs 0, hp := hp, nx := NX, df := [] }))
/-- the checks that are the same for all arguments -/
def fnFine (cx : Cx) (args : List Pt) (hp : List (Nat × BPt)) : Bool := ptsIn (idsB hp) args && bIn (idsB hp) hp && Nat.ble args.length cx.fn.ntmps
omit [LC] in
theorem idsB_look : ∀ {l : List (Nat × BPt)} {d : bden l} {n : Nat} {b : Box}, look (bput l d) n = some b → lookN (idsB l) n = some n
  | [], _, _, _, h => by cases h
  | (m, p) :: r, d, n, b, h => by
    have h : (bif Nat.beq m n then some (p.put d.1) else look (bput r d.2) n) = some b := h
    simp only [idsB, lookN]
    cases hb : Nat.beq m n
    · rw [hb] at h; exact idsB_look (d := d.2) h
    · have := Nat.eq_of_beq_eq_true hb; subst this; rfl
omit [LC] in
theorem noName {m : Nat} : ∀ {l : List (Nat × BPt)} {d : bden l}, look (bput l d) m = none → lookN (idsB l) m = none
  | [], _, _ => rfl
  | (n, p) :: r, d, h => by
    have h : (bif Nat.beq n m then some (p.put d.1) else look (bput r d.2) m) = none := h
    simp only [idsB, lookN]
    cases hb : Nat.beq n m
    · rw [hb] at h; exact noName (d := d.2) h
    · rw [hb] at h; cases h
omit [LC] in
theorem puts_length : ∀ {ps : List Pt} {d : Pts.den ps}, (Pts.put ps d).length = ps.length
  | [], _ => rfl
  | p :: ps, d => by show (p.put d.1 :: Pts.put ps d.2).length = _; simp [puts_length]
theorem Ent.sound_fn {e : Ent} {cx : Cx} {body : Code} {labs : List (Lab e.R)} (ok : cx.Ok body) (hkey : e.key = .fn cx.f) (hbody : cx.fn.body = some body) (hrd : cx.rd = none) (hids : cx.ids = idsB e.hp) (hpl : Plain cx.P cx.f)
    (hfine : fnFine cx e.args e.hp = true) (hlab : ∀ d', ∀ l ∈ labs, LabOk cx (bput e.hp d') e.out body l) (hF : ∀ d d', runFn cx body e.out labs e.args e.hp (Pts.put e.args d) (bput e.hp d') = e.F d d') : e.Sound cx.P := by
  intro d d' r hr
  rw [hkey]
  refine ⟨hpl, fun w G vs hm hreps => ?_⟩
  simp only [fnFine, Bool.and_eq_true] at hfine
  obtain ⟨⟨f1, f2⟩, f3⟩ := hfine
  have f3 := Nat.le_of_ble_eq_true f3
  have hin := bIn_look (d := d') f2
  have hm' := hm.only hin
  have hreps' : Reps (Pts.put e.args d) (G.view (idsB e.hp)) vs := by
    have := Reps.ren (ρ := rho (idsB e.hp)) (G := G) (G' := G.view (idsB e.hp)) (fun _ _ _ h => h) (view_box _) (view_own _) hreps
    rwa [puts_ren f1] at this
  have hlv := hreps.length
  rw [puts_length] at hlv
  have hrun := hF d d'
  rw [hr] at hrun
  have hg := run_ok (enc := e.out) ok (hp₀ := bput e.hp d') (fun n bx h => by rw [hids]; exact idsB_look h) (hlab d') _ _ _ _ _ (fun i hi => by
    rcases List.mem_cons.1 hi with rfl | hi
    · rfl
    · cases hi) hrun
  have hr0 : Rel w (G.view (idsB e.hp)) (bput e.hp d') (G.view (idsB e.hp)) { n := cx.fn.ntmps, fr := initFr (Pts.put e.args d) 0, hp := bput e.hp d', nx := NX, df := [] } { tmps := vs.toArray ++ Array.replicate (cx.fn.ntmps - vs.toArray.size) undef, defers := [] } w := by
    refine ⟨⟨[], rfl, rfl⟩, by simp; omega, fun i x hx => ?_, fun m _ hl => ?_, blocks_self hm'⟩
    · obtain ⟨_, v, h2, h3⟩ := initFr_look 0 hreps' i x hx
      refine ⟨v, ?_, h3⟩
      have hlt : i < vs.length := by have := (List.getElem?_eq_some_iff.1 h2).1; simpa using this
      rw [Array.getElem?_append_left (by simpa using hlt)]
      simpa using h2
    · have : lookN (idsB e.hp) m = none := noName hl
      simp [Gh.view, this]
  obtain ⟨G0, hr0'⟩ := hr0.reA (ps := bif cx.tb.sub then e.args else []) (i := 0)
  obtain ⟨G1, hr1⟩ := hr0'.reB (l := e.hp)
  intro cs
  let b : Frame := { (default : Frame) with fn := cx.f, kind := .normal }
  have henter : Frame.enter cx.P cx.f vs.toArray .normal = b.atR { tmps := vs.toArray ++ Array.replicate (cx.fn.ntmps - vs.toArray.size) undef, defers := [] } [.code body] := by
    simp [Frame.enter, Frame.atR, ok.func, hbody, b]
    rfl
  have := hg w _ _ _ w hr1 b cs rfl rfl (by unfold RdOk; rw [hrd]; rfl)
  obtain ⟨v, w', fr, ⟨G', h1, h2⟩, h3, h4, h5⟩ := this
  exact ⟨.returned v, w', fr, ⟨v, G', rfl, h1.only hin, h2⟩, by rw [henter]; exact h3, h4, h5⟩
omit [LC] in
/-- yield's arguments in the round's frame -/
def rdFr : List Tmp → List AV → List (Nat × AV) → List (Nat × AV)
  | p :: ps, x :: xs, fr => rdFr ps xs ((p, x) :: fr)
  | _, _, fr => fr
def allLt (n : Nat) : List Nat → Bool
  | [] => true
  | p :: ps => Nat.blt p n && allLt n ps
omit [LC] in
theorem rdFr_ok {G : Gh} {n : Nat} : ∀ {ps : List Tmp} {xs : List AV} {vs : List Value} {fr : List (Nat × AV)} {tmps : Array Value}, allLt n ps = true → tmps.size = n → ps.length = xs.length → Reps xs G vs → (∀ i x, look fr i = some x → ∃ v, tmps[i]? = some v ∧ Rep x G v) →
    ((ps.zip vs).foldl (fun (tmps : Array Value) (q : Tmp × Value) => tmps.setIfInBounds q.1 q.2) tmps).size = n ∧ ∀ i x, look (rdFr ps xs fr) i = some x → ∃ v, ((ps.zip vs).foldl (fun (tmps : Array Value) (q : Tmp × Value) => tmps.setIfInBounds q.1 q.2) tmps)[i]? = some v ∧ Rep x G v
  | [], [], [], fr, tmps, _, hn, _, _, hfr => ⟨hn, hfr⟩
  | p :: ps, x :: xs, v :: vs, fr, tmps, hlt, hn, hl, hr, hfr => by
    simp only [allLt, Bool.and_eq_true] at hlt
    have hp : p < n := by have := hlt.1; simpa using this
    simp only [List.zip_cons_cons, List.foldl_cons, rdFr]
    refine rdFr_ok hlt.2 (by simp [hn]) (by simpa using hl) hr.2 (fun i y hy => ?_)
    simp only [look] at hy
    cases he : Nat.beq p i
    · rw [he] at hy; simp only [cond_false] at hy
      have hne : p ≠ i := fun e => by subst e; simp at he
      obtain ⟨u, h1, h2⟩ := hfr i y hy
      exact ⟨u, by simp [hne, h1], h2⟩
    · rw [he] at hy; simp only [cond_true, Option.some.injEq] at hy; subst hy
      have := Nat.eq_of_beq_eq_true he; subst this
      exact ⟨v, by simp [hn, hp], hr.1⟩
  | [], _ :: _, _, _, _, _, _, h, _, _ => by simp at h
  | _ :: _, [], _, _, _, _, _, h, _, _ => by simp at h
  | [], [], _ :: _, _, _, _, _, _, h, _ => h.elim
  | _ :: _, _ :: _, [], _, _, _, _, _, h, _ => h.elim
/-- a round of the loop m, whose statement lies at p -/
def runRd (cx : Cx) (body : Code) (p : List Nat) (m : Nat) {R : Type} (enc : RS R) (labs : List (Lab R)) (pts : List (Nat × BPt)) (xs : List AV) (hp : List (Nat × Box)) : Option R :=
  match look hp m with
  | some (.loop .ready none f n fr ps tag _) => bif Nat.beq f cx.f && allLt n ps && eqLen ps xs && tagIs tag p cx.tags then
      run cx enc labs 1000000 true (itemsAt body [(0, 0 :: p), (4, []), (0, 1 :: p)]) (reB pts { n := n, fr := rdFr ps xs fr, hp := hp, nx := NX, df := [] })
    else none
  | _ => none
where
  eqLen : List Tmp → List AV → Bool
    | [], [] => true
    | _ :: ps, _ :: xs => eqLen ps xs
    | _, _ => false
  tagIs (tag : Nat) (p : List Nat) (tags : List (List Nat × Nat)) : Bool := match lookT p tags with
    | some t => Nat.beq t tag
    | none => false
omit [LC] in
theorem eqLen_eq : ∀ {ps : List Tmp} {xs : List AV}, runRd.eqLen ps xs = true → ps.length = xs.length
  | [], [], _ => rfl
  | _ :: ps, _ :: xs, h => by simp [eqLen_eq (ps := ps) (xs := xs) h]
  | [], _ :: _, h => by cases h
  | _ :: _, [], h => by cases h
def isRF : Code → Bool
  | .rangeFunc _ _ _ _ => true
  | _ => false
theorem Ent.sound_yld {e : Ent} {cx : Cx} {body : Code} {p : List Nat} {m : Nat} {labs : List (Lab e.R)} (ok : cx.Ok body) (hkey : e.key = .yld m) (hrd : cx.rd = some m) (hids : cx.ids = idsB e.hp) (hrf : isRF (sub body p) = true)
    (hfine : (ptsIn (idsB e.hp) e.args && bIn (idsB e.hp) e.hp) = true) (hlab : ∀ d', ∀ l ∈ labs, LabOk cx (bput e.hp d') e.out body l) (hF : ∀ d d', runRd cx body p m e.out labs e.hp (Pts.put e.args d) (bput e.hp d') = e.F d d') : e.Sound cx.P := by
  intro d d' r hr
  rw [hkey]
  intro w G vs B hm hreps hB
  simp only [Bool.and_eq_true] at hfine
  obtain ⟨f1, f2⟩ := hfine
  have hin := bIn_look (d := d') f2
  have hm' := hm.only hin
  have hreps' : Reps (Pts.put e.args d) (G.view (idsB e.hp)) vs := by
    have := Reps.ren (ρ := rho (idsB e.hp)) (G := G) (G' := G.view (idsB e.hp)) (fun _ _ _ h => h) (view_box _) (view_own _) hreps
    rwa [puts_ren f1] at this
  have hrun := hF d d'
  rw [hr] at hrun
  unfold runRd at hrun
  split at hrun
  · rename_i f n fr ps tag D hl
    cases hb : Nat.beq f cx.f && allLt n ps && runRd.eqLen ps (Pts.put e.args d) && runRd.tagIs tag p cx.tags <;> rw [hb] at hrun <;> simp only [cond_true, cond_false, reduceCtorEq] at hrun
    simp only [Bool.and_eq_true] at hb
    obtain ⟨⟨⟨b1, b2⟩, b3⟩, b4⟩ := hb
    have b1 := Nat.eq_of_beq_eq_true b1
    subst b1
    have b3 := eqLen_eq b3
    unfold runRd.tagIs at b4
    split at b4
    rotate_left
    · cases b4
    rename_i t ht
    have b4 := Nat.eq_of_beq_eq_true b4
    subst b4
    obtain ⟨B', tmps, DB, i1, i2, ⟨as, bo, i3, i4⟩, i5, i6, i7⟩ := hm'.holds m _ hl
    have hBv : (G.view (idsB e.hp)).box m = some B := by
      have := rho_spec (hin m _ hl).1
      simp [Gh.view, this, hB]
    rw [hBv] at i1; injection i1 with i1; subst i1
    obtain ⟨g, ps0, x, y, hs⟩ : ∃ g ps x y, sub body p = .rangeFunc g ps x y := by
      cases hc : sub body p <;> rw [hc] at hrf <;> first | exact ⟨_, _, _, _, rfl⟩ | cases hrf
    have hcode := ok.tags p t ht g ps0 x y hs
    rw [i3] at hcode
    simp only [Option.some.injEq, Prod.mk.injEq] at hcode
    obtain ⟨rfl, rfl⟩ := hcode
    have hg := run_ok (enc := e.out) ok (hp₀ := bput e.hp d') (fun n bx h => by rw [hids]; exact idsB_look h) (hlab d') _ _ _ _ _ itemsAt_ok hrun
    have hlv := hreps.length
    obtain ⟨j1, j2⟩ := rdFr_ok (n := n) b2 i5 b3 hreps' i6
    have hr0 : Rel w (G.view (idsB e.hp)) (bput e.hp d') (G.view (idsB e.hp)) { n := n, fr := rdFr ps (Pts.put e.args d) fr, hp := bput e.hp d', nx := NX, df := [] } { tmps := (ps.zip vs).foldl (fun (tmps : Array Value) (q : Tmp × Value) => tmps.setIfInBounds q.1 q.2) tmps, defers := [] } w :=
      ⟨⟨[], rfl, rfl⟩, j1, j2, fun k _ hk => by simp [Gh.view, noName hk], blocks_self hm'⟩
    obtain ⟨G1, hr1⟩ := hr0.reB (l := e.hp)
    refine ⟨_, i4, fun c cs => ⟨by simp; omega, ?_⟩⟩
    let b : Frame := { (default : Frame) with fn := cx.f, kind := .normal, roundOf := some B }
    have := hg w _ _ _ w hr1 b (c :: cs) rfl rfl (by unfold RdOk; rw [hrd]; exact ⟨B, _, hBv, hl, rfl⟩)
    obtain ⟨v, w', ⟨G', h1, h2⟩, h3⟩ := this c cs rfl
    refine ⟨v, w', ⟨v, G', rfl, h1.only hin, h2⟩, ?_⟩
    have e1 : Frame.round B cx.f ((ps.toArray.zip vs.toArray).foldl (fun tmps (t, a) => tmps.setIfInBounds t a) tmps) as bo .normal = b.atR { tmps := (ps.zip vs).foldl (fun (tmps : Array Value) (q : Tmp × Value) => tmps.setIfInBounds q.1 q.2) tmps, defers := [] } (items (itemsAt body [(0, 0 :: p), (4, []), (0, 1 :: p)])) := by
      simp [Frame.round, Frame.atR, b, items, itemsAt, itemAt, sub, hs, child, List.zip_toArray]
    simp only at e1 ⊢
    rw [e1]
    exact h3
  · cases hrun
/-- a label's function out of the body behind it -/
theorem LabOk.of_run {cx : Cx} {body : Code} {hp₀ : List (Nat × Box)} {R : Type} {enc : RS R} {labs : List (Lab R)} (ok : cx.Ok body) (hid : ∀ n bx, look hp₀ n = some bx → lookN cx.ids n = some n) (hlab : ∀ l ∈ labs, LabOk cx hp₀ enc body l) {l : Lab R}
    (h : ∀ d, run cx enc labs 1000000 false (itemsAt body l.key) (l.ls.st d) = l.F d) : LabOk cx hp₀ enc body l := fun d r hr => by
  have := h d
  rw [hr] at this
  exact run_ok ok hid hlab _ _ _ _ _ itemsAt_ok this
end Go.Sym
/- Words for printed texts. -/
namespace Go.Sym
open Go.RowKit
def bodyOf (f : Func) : Code := match f.body with
  | some c => c
  | none => .skip
/-- wrapping to 64 bits -/
def w64 (n : Int) : Int := IntKind.i64.wrap n
section
variable [LC] {cx : Cx} {hp₀ : List (Nat × Box)} {R : Type} {enc : RS R} {body : Code} {P : Program}
theorem labs0 : ∀ l ∈ ([] : List (Lab R)), LabOk cx hp₀ enc body l := fun _ h => by cases h
theorem labs1 {l : Lab R} {ls : List (Lab R)} (h : LabOk cx hp₀ enc body l) (k : ∀ x ∈ ls, LabOk cx hp₀ enc body x) : ∀ x ∈ l :: ls, LabOk cx hp₀ enc body x := fun x hx => by
  rcases List.mem_cons.1 hx with rfl | hx
  · exact h
  · exact k x hx
theorem ents0 : ∀ e ∈ ([] : List Ent), e.Sound P := fun _ h => by cases h
theorem ents1 {e : Ent} {es : List Ent} (h : e.Sound P) (k : ∀ x ∈ es, x.Sound P) : ∀ x ∈ e :: es, x.Sound P := fun x hx => by
  rcases List.mem_cons.1 hx with rfl | hx
  · exact h
  · exact k x hx
theorem tags0 : ∀ p t, lookT p [] = some t → ∀ g ps x y, sub body p = .rangeFunc g ps x y → LC.lc t = some (x, y) := fun _ _ h => by cases h
theorem tags1 {p : List Nat} {t : Nat} {tags : List (List Nat × Nat)} (h : LC.lc t = some (child 0 (sub body p), child 1 (sub body p))) (k : ∀ p t, lookT p tags = some t → ∀ g ps x y, sub body p = .rangeFunc g ps x y → LC.lc t = some (x, y)) :
    ∀ q u, lookT q ((p, t) :: tags) = some u → ∀ g ps x y, sub body q = .rangeFunc g ps x y → LC.lc u = some (x, y) := fun q u hq g ps x y hs => by
  simp only [lookT] at hq
  cases hb : eqNs p q
  · rw [hb] at hq; exact k q u hq g ps x y hs
  · rw [hb] at hq
    simp only [cond_true, Option.some.injEq] at hq
    subst hq
    have := eqNs_eq hb; subst this
    rw [h, hs]; rfl
end
end Go.Sym
/- Functions without a body that the model answers itself: the entries of internal/bytealg. -/
namespace Go.Sym
open Go.RowKit
variable [LC]

/-- the place of the first such byte -/
def F_bytealg_IndexByte (b : List UInt8) (c : UInt8) : Option Int := some (Lib.indexByte b c)
def F_bytealg_IndexByte_ent (f : FuncId) (r : List UInt8 → UInt8 → Option Int) : Ent := { key := .ext f, args := [.h (.list .byte), .h .byte], hp := [], R := Int, F := fun d _ => r d.1 d.2.1, out := .one (α := Int) (.h (.int .i64)) [] (fun r => (r, ())) (fun y => y.1) (fun _ => rfl) }
def F_bytealg_IndexByteString_ent (f : FuncId) (r : List UInt8 → UInt8 → Option Int) : Ent := { key := .ext f, args := [.h .str, .h .byte], hp := [], R := Int, F := fun d _ => r d.1 d.2.1, out := .one (α := Int) (.h (.int .i64)) [] (fun r => (r, ())) (fun y => y.1) (fun _ => rfl) }
omit [LC] in
theorem byte_back (c : UInt8) : ((c.toNat : Int)).toNat.toUInt8 = c := by simp
theorem indexByteString_ext {P : Program} {f : FuncId} {fn : Func} (hf : P.funcs[f]? = some fn) (hname : (fn.name == "runtime.NumGoroutine") = false) (hb : fn.body.isNone = true) (hn : Extern.findNext fn = none) (he : Extern.find fn = some Extern.BytealgIndexByte.indexByte) (b : List UInt8) (c : UInt8) :
    ExtTo P f [.str b, .byte c] (.int .i64 (Lib.indexByte b c)) := fun w G vs _ hr => by
  match vs, hr with
  | [v1, v2], ⟨h1, h2, _⟩ =>
    have h1 : v1 = .string ⟨b.toArray⟩ := h1
    have h2 : v2 = .int .u8 c.toNat := h2
    subst h1 h2
    refine ⟨.int .i64 (Lib.indexByte b c), ?_, rfl⟩
    rw [run_callFunc_extern hf hname hb hn he, show ([Value.string ⟨b.toArray⟩, .int .u8 c.toNat] : List Value).toArray = #[.string ⟨b.toArray⟩, .int .u8 c.toNat] from rfl, Lib.run_indexByteString, byte_back]
    rfl
theorem indexByte_ext {P : Program} {f : FuncId} {fn : Func} (hf : P.funcs[f]? = some fn) (hname : (fn.name == "runtime.NumGoroutine") = false) (hb : fn.body.isNone = true) (hn : Extern.findNext fn = none) (he : Extern.find fn = some Extern.BytealgIndexByte.indexByte) (b : List UInt8) (c : UInt8) :
    ExtTo P f [.sl .byte b, .byte c] (.int .i64 (Lib.indexByte b c)) := fun w G vs hm hr => by
  match vs, hr with
  | [v1, v2], ⟨h1, h2, _⟩ =>
    have h2 : v2 = .int .u8 c.toNat := h2
    subst h2
    obtain ⟨a, cp, rfl, hc, hl⟩ : SlAt 1 (Ty.byte.At G.imm) b v1 := h1
    refine ⟨.int .i64 (Lib.indexByte b c), ?_, rfl⟩
    rw [run_callFunc_extern hf hname hb hn he]
    have key : ∀ k : Int, (Extern.BytealgIndexByte.indexByte #[.slice a b.length cp, .int .u8 c.toNat]).run P w = .ok (.int .i64 k) w → ((Extern.BytealgIndexByte.indexByte ([Value.slice a b.length cp, .int .u8 c.toNat] : List Value).toArray).run P w).andThen (fun v w' => Result.ok (Next.value v) w') = .ok (.value (.int .i64 k)) w := by
      intro k hk
      have e : ([Value.slice a b.length cp, .int .u8 c.toNat] : List Value).toArray = #[.slice a b.length cp, .int .u8 c.toNat] := rfl
      rw [e, hk]; rfl
    refine key _ ?_
    have bb : Lib.bytesOf (b.map fun x => (x.toNat : Int)) = b := by
      unfold Lib.bytesOf
      rw [List.map_map]
      have : ((fun n : Int => UInt8.ofNat n.toNat) ∘ fun x : UInt8 => (x.toNat : Int)) = id := by funext x; simp
      rw [this, List.map_id]
    rcases hl with rfl | ⟨g, o, rfl, hcells⟩
    · have hs := Lib.run_indexByteString (P := P) .empty (c.toNat : Int) w
      cases a with
      | none => exact hs
      | some ad => exact hs
    · have := Lib.run_indexByteSlice (P := P) (w := w) g o b.length cp (b.map fun x => (x.toNat : Int)) (by simp) (fun i hi => by
        have hk : G.imm g (o + i * 1) = some (.int .u8 b[i].toNat) := hcells i _ (List.getElem?_eq_getElem hi)
        have := hm.agree _ _ _ hk
        rw [Nat.mul_one] at this
        rw [this]
        simp [List.getD_eq_getElem?_getD, hi]) (c.toNat : Int)
      rw [bb, byte_back] at this
      exact this
theorem F_bytealg_IndexByteString_ok {P : Program} {f : FuncId} {fn : Func} (hf : P.funcs[f]? = some fn) (hname : (fn.name == "runtime.NumGoroutine") = false) (hb : fn.body.isNone = true) (hn : Extern.findNext fn = none) (he : Extern.find fn = some Extern.BytealgIndexByte.indexByte) :
    (F_bytealg_IndexByteString_ent f F_bytealg_IndexByte).Sound P := fun d d' r h => by
  have h : some (Lib.indexByte (show List UInt8 from d.1) (show UInt8 from d.2.1)) = some r := h
  have h := Option.some.inj h
  subst h
  exact indexByteString_ext hf hname hb hn he _ _
theorem F_bytealg_IndexByte_ok {P : Program} {f : FuncId} {fn : Func} (hf : P.funcs[f]? = some fn) (hname : (fn.name == "runtime.NumGoroutine") = false) (hb : fn.body.isNone = true) (hn : Extern.findNext fn = none) (he : Extern.find fn = some Extern.BytealgIndexByte.indexByte) :
    (F_bytealg_IndexByte_ent f F_bytealg_IndexByte).Sound P := fun d d' r h => by
  have h : some (Lib.indexByte (show List UInt8 from d.1) (show UInt8 from d.2.1)) = some r := h
  have h := Option.some.inj h
  subst h
  exact indexByte_ext hf hname hb hn he _ _
end Go.Sym
