/- What the claim rests on, part 3: gathered texts. -/
import Derived.RangeFuncRecord
import Derived.Laws.RangeAny
import Derived.Laws.MakeOwn
import Derived.Laws.IdiomStrings
import Derived.Laws.Cover4
import Derived.Test.YtfmacibdajfkmaaGreatDoorSyA2
/- Arguments of calls: own slices lent as data; memory handed in. -/
namespace Go.Sym
open Go.RowKit
variable [LC]

/- an own slice seen as data -/
mutual
def lend (hp : List (Nat × Box)) : AV → AV
  | .own k => match look hp k with
    | some (.row τ l _) => .sl τ l
    | _ => .own k
  | .agg xs => .agg (lends hp xs)
  | x => x
def lends (hp : List (Nat × Box)) : List AV → List AV
  | [] => []
  | x :: xs => lend hp x :: lends hp xs
end
mutual
def hasOwn1 : AV → Bool
  | .own _ => true
  | .agg xs => hasOwn xs
  | _ => false
def hasOwn : List AV → Bool
  | [] => false
  | x :: xs => hasOwn1 x || hasOwn xs
end
mutual
def noIf : AV → Bool
  | .iface _ x => match x with
    | .oel _ _ _ _ => true
    | _ => false
  | .agg xs => noIfs xs
  | .tup xs => noIfs xs
  | .fn _ xs ys => noIfs xs && noIfs ys
  | _ => true
def noIfs : List AV → Bool
  | [] => true
  | x :: xs => noIf x && noIfs xs
end
omit [LC] in
theorem noIfs_append : ∀ {xs ys : List AV}, noIfs xs = true → noIfs ys = true → noIfs (xs ++ ys) = true
  | [], _, _, h => h
  | x :: xs, ys, h, k => by
    simp only [noIfs, Bool.and_eq_true, List.cons_append] at h ⊢
    exact ⟨h.1, noIfs_append h.2 k⟩
omit [LC] in
theorem noIfs_enc : ∀ {τ : Ty} {d : τ.den}, noIfs (τ.enc d) = true
  | .int _, _ => rfl
  | .byte, _ => rfl
  | .bool, _ => rfl
  | .str, _ => rfl
  | .unit, _ => rfl
  | .prod _ _, _ => noIfs_append noIfs_enc noIfs_enc
  | .list _, _ => rfl
  | .tree _, _ => noIfs_append noIfs_enc rfl
omit [LC] in
theorem noIf_av : ∀ {τ : Ty} {d : τ.den}, noIf (τ.av d) = true
  | .int _, _ => rfl
  | .byte, _ => rfl
  | .bool, _ => rfl
  | .str, _ => rfl
  | .unit, _ => rfl
  | .prod a b, d => noIfs_enc (τ := .prod a b) (d := d)
  | .list _, _ => rfl
  | .tree a, d => noIfs_enc (τ := .tree a) (d := d)
omit [LC] in
mutual
theorem noIf_put : ∀ {p : Pt} {d : p.den}, noIf (p.put d) = true
  | .h _, _ => noIf_av
  | .c _, _ => rfl
  | .agg ps, d => noIfs_put (ps := ps) (d := d)
  | .tup ps, d => noIfs_put (ps := ps) (d := d)
  | .ptr _ _, _ => rfl
  | .own _, _ => rfl
  | .arr _, _ => rfl
  | .el _ _, _ => rfl
  | .iel _ _ _, _ => rfl
  | .yld _, _ => rfl
  | .pn _, _ => rfl
  | .fn _ cap, d => noIfs_put (ps := cap) (d := d)
  | .u, _ => rfl
theorem noIfs_put : ∀ {ps : List Pt} {d : Pts.den ps}, noIfs (Pts.put ps d) = true
  | [], _ => rfl
  | p :: ps, d => by
    show (noIf (p.put d.1) && noIfs (Pts.put ps d.2)) = true
    rw [noIf_put, noIfs_put]; rfl
end
omit [LC] in
mutual
theorem vw_bare {b : Bool} {hp : List (Nat × Box)} : ∀ {x y : AV} {ps : List Prop}, noIf y = true → vw false [] (x.ren (rho [])) y = some ps → Alls ps → ∃ qs, vw b hp x y = some qs ∧ Alls qs
  | .agg xs, y, ps, hn, h, hp => by
    cases y <;> first
      | exact vws_bare (xs := xs) hn h hp
      | exact ⟨_, rfl, trivial⟩
      | (exfalso; have := Option.some.inj h; subst this; exact absurd hp.1 (by simp))
  | .tup xs, y, ps, hn, h, hp => by
    cases y <;> first
      | exact vws_bare (xs := xs) hn h hp
      | exact ⟨_, rfl, trivial⟩
      | (exfalso; have := Option.some.inj h; subst this; exact absurd hp.1 (by simp))
  | .fn f xs ys, y, ps, hn, h, hp => by
    cases y with
    | fn f' xs' ys' =>
      simp only [noIf, Bool.and_eq_true] at hn
      have h : (match vws false [] (AV.rens (rho []) xs) xs', vws false [] (AV.rens (rho []) ys) ys' with
        | some ps, some qs => some ((f' = f) :: (ps ++ qs))
        | _, _ => none) = some ps := h
      split at h
      · rename_i p1 p2 h1 h2
        have := Option.some.inj h; subst this
        obtain ⟨q1, e1, a1⟩ := vws_bare (b := b) (hp := ‹_›) hn.1 h1 (Alls_append.1 hp.2).1
        obtain ⟨q2, e2, a2⟩ := vws_bare (b := b) (hp := ‹_›) hn.2 h2 (Alls_append.1 hp.2).2
        exact ⟨(f' = f) :: (q1 ++ q2), by simp only [vw, e1, e2], hp.1, Alls_append.2 ⟨a1, a2⟩⟩
      · cases h
    | undef => exact ⟨_, rfl, trivial⟩
    | _ => exfalso; have := Option.some.inj h; subst this; exact absurd hp.1 (by simp)
  | .val v, y, ps, hn, h, hp => by cases y <;> exact ⟨ps, h, hp⟩
  | .undef, y, ps, hn, h, hp => by cases y <;> exact ⟨ps, h, hp⟩
  | .int _ _, y, ps, hn, h, hp => by cases y <;> exact ⟨ps, h, hp⟩
  | .byte _, y, ps, hn, h, hp => by cases y <;> exact ⟨ps, h, hp⟩
  | .bool _, y, ps, hn, h, hp => by cases y <;> exact ⟨ps, h, hp⟩
  | .str _, y, ps, hn, h, hp => by cases y <;> exact ⟨ps, h, hp⟩
  | .sl _ _, y, ps, hn, h, hp => by cases y <;> exact ⟨ps, h, hp⟩
  | .arr _ _, y, ps, hn, h, hp => by cases y <;> exact ⟨ps, h, hp⟩
  | .rop _, y, ps, hn, h, hp => by cases y <;> exact ⟨ps, h, hp⟩
  | .iface t x, y, ps, hn, h, hp => by
    cases y with
    | undef => exact ⟨_, rfl, trivial⟩
    | iface t' x' =>
      have := Option.some.inj h; subst this
      cases x' <;> simp only [noIf, Bool.false_eq_true] at hn
      have e : AV.iface t' (AV.oel _ _ _ _) = AV.iface t (AV.ren (rho []) x) := hp.1
      injection e with e1 e2
      exfalso
      revert e2
      cases x <;> simp [AV.ren, rho, lookR]
    | _ => exfalso; have := Option.some.inj h; subst this; exact absurd hp.1 (by simp [AV.ren])
  | .ptr _ _, y, ps, hn, h, hp => by
    cases y <;> first
      | exact ⟨_, rfl, trivial⟩
      | (exfalso; have := Option.some.inj h; subst this; have e : _ = AV.undef := hp.1; cases e)
  | .own _, y, ps, hn, h, hp => by
    cases y <;> first
      | exact ⟨_, rfl, trivial⟩
      | (exfalso; have := Option.some.inj h; subst this; have e : _ = AV.undef := hp.1; cases e)
  | .oel _ _ _ _, y, ps, hn, h, hp => by
    cases y <;> first
      | exact ⟨_, rfl, trivial⟩
      | (exfalso; have := Option.some.inj h; subst this; have e : _ = AV.undef := hp.1; cases e)
  | .osl _ _ _, y, ps, hn, h, hp => by
    cases y <;> first
      | exact ⟨_, rfl, trivial⟩
      | (exfalso; have := Option.some.inj h; subst this; have e : _ = AV.undef := hp.1; cases e)
  | .asl _ _ _, y, ps, hn, h, hp => by
    cases y <;> first
      | exact ⟨_, rfl, trivial⟩
      | (exfalso; have := Option.some.inj h; subst this; have e : _ = AV.undef := hp.1; cases e)
  | .yld _, y, ps, hn, h, hp => by
    cases y <;> first
      | exact ⟨_, rfl, trivial⟩
      | (exfalso; have := Option.some.inj h; subst this; have e : _ = AV.undef := hp.1; cases e)
  | .pn _, y, ps, hn, h, hp => by
    cases y <;> first
      | exact ⟨_, rfl, trivial⟩
      | (exfalso; have := Option.some.inj h; subst this; have e : _ = AV.undef := hp.1; cases e)
theorem vws_bare {b : Bool} {hp : List (Nat × Box)} : ∀ {xs ys : List AV} {ps : List Prop}, noIfs ys = true → vws false [] (AV.rens (rho []) xs) ys = some ps → Alls ps → ∃ qs, vws b hp xs ys = some qs ∧ Alls qs
  | [], [], ps, _, h, hp => ⟨[], rfl, trivial⟩
  | x :: xs, y :: ys, ps, hn, h, hp => by
    simp only [noIfs, Bool.and_eq_true] at hn
    simp only [AV.rens, vws] at h
    split at h
    · rename_i p1 h1
      split at h
      · rename_i p2 h2
        have := Option.some.inj h; subst this
        obtain ⟨q1, e1, a1⟩ := vw_bare (b := b) (hp := ‹_›) hn.1 h1 (Alls_append.1 hp).1
        obtain ⟨q2, e2, a2⟩ := vws_bare (b := b) (hp := ‹_›) hn.2 h2 (Alls_append.1 hp).2
        exact ⟨q1 ++ q2, by simp only [vws, e1, e2], Alls_append.2 ⟨a1, a2⟩⟩
      · cases h
    · cases h
  | [], _ :: _, _, _, h, _ => by simp [AV.rens, vws] at h
  | _ :: _, [], _, _, h, _ => by simp [AV.rens, vws] at h
end
omit [LC] in
mutual
theorem vw_lend {hp : List (Nat × Box)} : ∀ {x y : AV}, noIf y = true → Seen [] (lend hp x) y → ∃ qs, vw true hp x y = some qs ∧ Alls qs
  | .own k, y, hn, ⟨ps, h1, h2⟩ => by
    simp only [lend] at h1
    split at h1
    · rename_i τ l E hl
      cases y with
      | undef => exact ⟨_, rfl, trivial⟩
      | sl τ' l' =>
        have := Option.some.inj h1; subst this
        exact ⟨[AV.sl τ' l' = AV.sl τ l], by simp only [vw, hl, cond_true], h2.1, trivial⟩
      | _ => exfalso; have := Option.some.inj h1; subst this; exact absurd h2.1 (by simp [AV.ren])
    · exact vw_bare hn h1 h2
  | .agg xs, y, hn, ⟨ps, h1, h2⟩ => by
    simp only [lend, AV.ren] at h1
    cases y with
    | undef => exact ⟨_, rfl, trivial⟩
    | agg ys =>
      have h1' : vws false [] (AV.rens (rho []) (lends hp xs)) ys = some ps := h1
      have hn' : noIfs ys = true := hn
      obtain ⟨qs, k1, k2⟩ := vws_lend (xs := xs) hn' ⟨ps, h1', h2⟩
      exact ⟨qs, k1, k2⟩
    | _ => exfalso; have := Option.some.inj h1; subst this; exact absurd h2.1 (by simp)
  | .undef, y, hn, ⟨ps, h1, h2⟩ => vw_bare (x := .undef) hn h1 h2
  | .int k n, y, hn, ⟨ps, h1, h2⟩ => vw_bare (x := .int k n) hn h1 h2
  | .byte c, y, hn, ⟨ps, h1, h2⟩ => vw_bare (x := .byte c) hn h1 h2
  | .bool c, y, hn, ⟨ps, h1, h2⟩ => vw_bare (x := .bool c) hn h1 h2
  | .str c, y, hn, ⟨ps, h1, h2⟩ => vw_bare (x := .str c) hn h1 h2
  | .sl τ l, y, hn, ⟨ps, h1, h2⟩ => vw_bare (x := .sl τ l) hn h1 h2
  | .arr τ l, y, hn, ⟨ps, h1, h2⟩ => vw_bare (x := .arr τ l) hn h1 h2
  | .rop c, y, hn, ⟨ps, h1, h2⟩ => vw_bare (x := .rop c) hn h1 h2
  | .val c, y, hn, ⟨ps, h1, h2⟩ => vw_bare (x := .val c) hn h1 h2
  | .tup c, y, hn, ⟨ps, h1, h2⟩ => vw_bare (x := .tup c) hn h1 h2
  | .ptr b o, y, hn, ⟨ps, h1, h2⟩ => vw_bare (x := .ptr b o) hn h1 h2
  | .oel k z i o, y, hn, ⟨ps, h1, h2⟩ => vw_bare (x := .oel k z i o) hn h1 h2
  | .osl k z l, y, hn, ⟨ps, h1, h2⟩ => vw_bare (x := .osl k z l) hn h1 h2
  | .asl k n c, y, hn, ⟨ps, h1, h2⟩ => vw_bare (x := .asl k n c) hn h1 h2
  | .yld n, y, hn, ⟨ps, h1, h2⟩ => vw_bare (x := .yld n) hn h1 h2
  | .pn n, y, hn, ⟨ps, h1, h2⟩ => vw_bare (x := .pn n) hn h1 h2
  | .fn f a c, y, hn, ⟨ps, h1, h2⟩ => vw_bare (x := .fn f a c) hn h1 h2
  | .iface t x, y, hn, ⟨ps, h1, h2⟩ => vw_bare (x := .iface t x) hn h1 h2
theorem vws_lend {hp : List (Nat × Box)} : ∀ {xs ys : List AV}, noIfs ys = true → Seens [] (lends hp xs) ys → ∃ qs, vws true hp xs ys = some qs ∧ Alls qs
  | [], [], _, _ => ⟨[], rfl, trivial⟩
  | x :: xs, y :: ys, hn, ⟨ps, h, hp⟩ => by
    simp only [noIfs, Bool.and_eq_true] at hn
    simp only [lends, AV.rens, vws] at h
    split at h
    · rename_i p1 h1
      split at h
      · rename_i p2 h2
        have := Option.some.inj h; subst this
        obtain ⟨q1, e1, a1⟩ := vw_lend hn.1 ⟨_, h1, (Alls_append.1 hp).1⟩
        obtain ⟨q2, e2, a2⟩ := vws_lend hn.2 ⟨_, h2, (Alls_append.1 hp).2⟩
        exact ⟨q1 ++ q2, by simp only [vws, e1, e2], Alls_append.2 ⟨a1, a2⟩⟩
      · cases h
    · cases h
  | [], _ :: _, _, ⟨_, h, _⟩ => by simp [lends, AV.rens, vws] at h
  | _ :: _, [], _, ⟨_, h, _⟩ => by simp [lends, AV.rens, vws] at h
end
/- data without references -/
def Ty.noRef : Ty → Bool
  | .list _ => false
  | .tree _ => false
  | .prod a b => a.noRef && b.noRef
  | _ => true
omit [LC] in
theorem noRefs_append : ∀ {xs ys : List AV}, noRefs xs = true → noRefs ys = true → noRefs (xs ++ ys) = true
  | [], _, _, h => h
  | x :: xs, ys, h, k => by
    simp only [noRefs, Bool.and_eq_true, List.cons_append] at h ⊢
    exact ⟨h.1, noRefs_append h.2 k⟩
omit [LC] in
theorem noRefs_enc : ∀ {τ : Ty}, τ.noRef = true → ∀ {d : τ.den}, noRefs (τ.enc d) = true
  | .int _, _, _ => rfl
  | .byte, _, _ => rfl
  | .bool, _, _ => rfl
  | .str, _, _ => rfl
  | .unit, _, _ => rfl
  | .prod a b, h, _ => by
    simp only [Ty.noRef, Bool.and_eq_true] at h
    exact noRefs_append (noRefs_enc h.1) (noRefs_enc h.2)
/-- memory handed back without references -/
def rowsOnly : List (Nat × BPt) → Bool
  | [] => true
  | (_, .row τ _) :: r => τ.noRef && rowsOnly r
  | _ :: _ => false
omit [LC] in
theorem rowsOnly_ok : ∀ {l : List (Nat × BPt)}, rowsOnly l = true → ∀ {d : bden l}, Alls (noRefHp (bput l d))
  | [], _, _ => trivial
  | (n, .row τ E) :: r, h, d => by
    simp only [rowsOnly, Bool.and_eq_true] at h
    exact ⟨fun x _ => noRefs_enc h.1, rowsOnly_ok h.2 (d := d.2)⟩
  | (_, .cells _ _) :: _, h, _ => by cases h
  | (_, .loop _ _ _ _ _ _ _ _) :: _, h, _ => by cases h
  | (_, .dfr) :: _, h, _ => by cases h
  | (_, .it) :: _, h, _ => by cases h
  | (_, .dat _ _) :: _, h, _ => by cases h
  | (_, .dead) :: _, h, _ => by cases h
mutual
def ptNoRef : Pt → Bool
  | .h τ => τ.noRef
  | .agg ps => ptsNoRef ps
  | .tup ps => ptsNoRef ps
  | .fn _ ps => ptsNoRef ps
  | _ => true
def ptsNoRef : List Pt → Bool
  | [] => true
  | p :: ps => ptNoRef p && ptsNoRef ps
end
def RS.rows : {α : Type} → RS α → Bool
  | _, .one p hp _ _ _ => ptNoRef p && rowsOnly hp
  | _, .two l r => l.rows && r.rows
omit [LC] in
theorem RS.rows_ok : ∀ {α : Type} {r : RS α}, r.rows = true → ∀ {x : α}, Alls (noRefHp (r.res x).2)
  | _, .one _ hp _ _ _, h, _ => rowsOnly_ok (l := hp) (by simp only [RS.rows, Bool.and_eq_true] at h; exact h.2)
  | _, .two l r, h, .inl a => by
    simp only [RS.rows, Bool.and_eq_true] at h
    exact RS.rows_ok (r := l) h.1 (x := a)
  | _, .two l r, h, .inr b => by
    simp only [RS.rows, Bool.and_eq_true] at h
    exact RS.rows_ok (r := r) h.2 (x := b)
end Go.Sym
/- Operations that make or change memory: what they ask for. -/
namespace Go.Sym
open Go.RowKit
variable [LC]

/-- a slice or a string as data of a known type -/
def lstOf (s : St) (τ : Ty) : AV → Option (List τ.den)
  | .sl τ' l => match Ty.eq? τ' τ with
    | some ⟨h⟩ => some (h ▸ l)
    | none => none
  | .str b => match Ty.eq? .byte τ with
    | some ⟨h⟩ => some (h ▸ (b : List Ty.byte.den))
    | none => none
  | .own k => match look s.hp k with
    | some (.row τ' l _) => match Ty.eq? τ' τ with
      | some ⟨h⟩ => some (h ▸ l)
      | none => none
    | _ => none
  | .asl b _ _ => match look s.hp b with
    | some (.cells cs _) => decL τ cs
    | _ => none
  | .val (.slice none 0 0) => some []
  | _ => none
omit [LC] in
theorem lstOf_src {s : St} {τ : Ty} {v : AV} {l : List τ.den} (h : lstOf s τ v = some l) {flat : List AV} {n : Nat} (hs : srcOf s v = some (flat, n)) : flat = l.flatMap τ.enc ∧ n = l.length := by
  unfold lstOf at h
  split at h
  · split at h
    · rename_i hh _
      subst hh
      have h := Option.some.inj h
      subst h
      simp only [srcOf, Option.some.injEq, Prod.mk.injEq] at hs; obtain ⟨rfl, rfl⟩ := hs
      exact ⟨rfl, rfl⟩
    · cases h
  · split at h
    · rename_i hh _
      subst hh
      have h := Option.some.inj h
      subst h
      simp only [srcOf, Option.some.injEq, Prod.mk.injEq] at hs; obtain ⟨rfl, rfl⟩ := hs
      exact ⟨(flat_encB _).symm, rfl⟩
    · cases h
  · split at h
    · rename_i hl
      split at h
      · rename_i hh _
        subst hh
        have h := Option.some.inj h
        subst h
        simp only [srcOf, hl, Option.some.injEq, Prod.mk.injEq] at hs; obtain ⟨rfl, rfl⟩ := hs
        exact ⟨rfl, rfl⟩
      · cases h
    · cases h
  · rename_i b m c
    split at h
    · rename_i cs T hl
      simp only [srcOf, hl] at hs
      cases hq : Nat.beq m c && Nat.beq cs.length m && allData (cs.map AV.sym) <;> rw [hq] at hs <;> simp only [cond_true, cond_false, reduceCtorEq, Option.some.injEq, Prod.mk.injEq] at hs
      obtain ⟨rfl, rfl⟩ := hs
      simp only [Bool.and_eq_true, Nat.beq_eq] at hq
      have e1 := decL_eq h
      have e2 : cs.length = l.length := by have := congrArg List.length e1; simpa using this
      refine ⟨?_, by omega⟩
      rw [e1]
      have hd : ∀ x ∈ l.map τ.av, isData x = true := by
        intro x hx
        rw [← e1] at hx
        have : ∀ {xs : List AV}, allData xs = true → ∀ x ∈ xs, isData x = true := by
          intro xs
          induction xs with
          | nil => intro _ x hx; cases hx
          | cons y ys ih =>
            intro hy x hx
            simp only [allData, Bool.and_eq_true] at hy
            rcases List.mem_cons.1 hx with q | q
            · rw [q]; exact hy.1
            · exact ih hy.2 x q
        exact this hq.2 x hx
      clear e1 e2 hq h
      induction l with
      | nil => rfl
      | cons y l ih =>
        rw [List.map_cons, List.flatMap_cons, ih (fun x hx => hd x (by rw [List.map_cons]; exact List.mem_cons_of_mem _ hx))]
        have hy := hd (τ.av y) (by rw [List.map_cons]; exact List.mem_cons_self)
        have : τ.enc y = [τ.av y] := by cases τ <;> first | rfl | (simp [Ty.av, isData] at hy)
        rw [this]; rfl
    · cases h
  · have h := Option.some.inj h; subst h
    simp only [srcOf, Option.some.injEq, Prod.mk.injEq] at hs; obtain ⟨rfl, rfl⟩ := hs
    exact ⟨rfl, rfl⟩
  · cases h
def decMany (τ : Ty) : Nat → List AV → Option (List τ.den)
  | 0, [] => some []
  | n + 1, cs => match τ.dec cs with
    | some (d, r) => match decMany τ n r with
      | some ds => some (d :: ds)
      | none => none
    | none => none
  | _, _ => none
omit [LC] in
theorem decMany_seen {τ : Ty} : ∀ {n : Nat} {cs : List AV} {l : List τ.den}, decMany τ n cs = some l → SeenD cs (l.flatMap τ.enc) ∧ l.length = n
  | 0, [], l, h => by have h := Option.some.inj h; subst h; exact ⟨⟨fun _ => rfl, [], rfl, trivial⟩, rfl⟩
  | 0, _ :: _, l, h => by cases h
  | n + 1, cs, l, h => by
    simp only [decMany] at h
    split at h
    · rename_i d r hd
      split at h
      · rename_i ds hds
        have h := Option.some.inj h; subst h
        obtain ⟨pre, rfl, hs⟩ := dec_seen hd
        obtain ⟨h1, h2⟩ := decMany_seen hds
        exact ⟨hs.append h1, by simp [h2]⟩
      · cases h
    · cases h
/-- what is known: calls; the types of elements -/
structure Tb : Type 1 where
  ents : List Ent
  ety : List (Nat × Ty)
  /-- parts of own slices are seen as such -/
  sub : Bool
def nilN : NM → Bool
  | [] => true
  | _ => false
def nilB : List (Nat × BPt) → Bool
  | [] => true
  | _ => false
def keyIs (f : FuncId) : Key → Bool
  | .fn f' => Nat.beq f' f
  | _ => false
def callQ (s : St) (f : FuncId) (xs : List AV) (e : Ent) : Option Rq :=
  bif keyIs f e.key && nilB e.hp && (!(hasOwn xs) || e.out.rows) then
    match Pts.get e.args (lends s.hp xs) [] with
    | some (d, nm) => match bget s.hp e.hp nm with
      | some (d', nm') => bif nilN nm' then some (.bnd (e.F d d') (e.out.sp fun r hp' => .res (hasOwn xs) (Pts.put e.args d) r hp')) else none
      | none => none
    | none => none
  else none
/-- the names in the order of the entry -/
def order (nm : NM) : List (Nat × BPt) → NM
  | [] => []
  | (n, _) :: r => match lookN nm n with
    | some m => (n, m) :: order nm r
    | none => order nm r
def memQ (s : St) (ys : List AV) (nm0 : NM) (e : Ent) : Option Rq :=
  match Pts.get e.args ys nm0 with
  | some (d, nm) => match bget s.hp e.hp nm with
    | some (d', nm') => bif distinctOld (order nm' e.hp) && allIn nm' e.hp then
        some (.bnd (e.F d d') (e.out.sp fun r hp' => .mem (order nm' e.hp) (Pts.put e.args d) (bput e.hp d') r hp')) else none
    | none => none
  | none => none
def callMQ (s : St) (f : FuncId) (ys : List AV) (e : Ent) : Option Rq := bif keyIs f e.key then memQ s ys [] e else none
def yldQ (s : St) (m : Nat) (ys : List AV) (e : Ent) : Option Rq := match e.key with
  | .yld m' => memQ s ys [(m', m)] e
  | _ => none
def firstQ (g : Ent → Option Rq) : List Ent → Option Rq
  | [] => none
  | e :: es => match g e with
    | some q => some q
    | none => firstQ g es
def appQ (P : Program) (tb : Tb) (s : St) (t : TypeId) (x y : AV) : Option Rq :=
  match x with
  | .own k => match look s.hp k with
    | some (.row τ l E) => match lstOf s τ y with
      | some m => some (.ifb (decide ((l ++ m).length ≤ rowMax)) (.row (.row τ (l ++ m) E)))
      | none => none
    | _ => none
  | _ => match P.underlying t with
    | some (.slice E) => match look tb.ety E with
      | some τ => match lstOf s τ y with
        | some m => some (.ifb (decide (m.length ≤ rowMax)) (.row (.row τ m E)))
        | none => none
      | none => none
    | _ => none
def sliceQ (P : Program) (tb : Tb) (s : St) (t : TypeId) (len : Nat) (parts : List (Nat × Operand)) : Option Rq :=
  match P.underlying t with
  | some (.slice E) => match look tb.ety E, tSize P E, aparts s parts with
    | none, _, _ => some (.tot (.b true))
    | some τ, some sz, some ps => match afill (fun i => some (i * sz, sz)) (undefs (len * sz)) ps with
      | some cs => match decMany τ len cs with
        | some l => some (.tot (.row (.row τ l E)))
        | none => none
      | none => none
    | _, _, _ => none
  | _ => none
/-- a store into an element of an own slice -/
def storeQ (s : St) (k i off : Nat) (v : AV) : Option Rq := match look s.hp k with
  | some (.row τ l E) => bif Nat.ble (off + v.cells.length) τ.sz then
      some (.bnd l[i]? (.one fun x => match τ.dec (splice (τ.enc x) off v.cells) with
        | some (y, []) => .put (((τ.enc y).drop off).take v.cells.length) (.row τ (l.set i y) E)
        | _ => .none))
    else none
  | _ => none
def areqN (P : Program) (tb : Tb) (s : St) (op : Op) : Option Rq :=
  match op with
  | .alloc _ => some (.tot .none)
  | .box _ _ => some (.tot .none)
  | .buildSlice t len parts => sliceQ P tb s t len parts.toList
  | .convert _ _ x => match s.ev x with
    | some (.str b) => some (.ifb (decide (b.length ≤ maxLen)) .none)
    | _ => none
  | .store _ x y => match s.ev x with
    | some (.ptr _ _) => some (.tot .none)
    | some (.oel k _ i off) => match s.ev y with
      | some v => storeQ s k i off v
      | none => none
    | _ => none
  | .call { callee := .builtin .append, args, argTypes } => match args.toList, argTypes.toList with
    | [x, y], [t, _] => match s.ev x, s.ev y with
      | some a, some b => appQ P tb s t a b
      | _, _ => none
    | _, _ => none
  | .call { callee := .value g, args, argTypes := _ } => match s.ev g, s.evs args.toList with
    | some (.fn (.func f) [] cap), some xs => match firstQ (callQ s f (xs ++ cap)) tb.ents with
      | some q => some q
      | none => firstQ (callMQ s f (xs ++ cap)) tb.ents
    | some (.yld m), some ys => firstQ (yldQ s m ys) tb.ents
    | _, _ => none
  | _ => none
/-- the operation leaves memory as it is -/
def isVal (P : Program) : Op → Bool
  | .alloc _ => false
  | .box _ _ => false
  | .buildSlice _ _ _ => false
  | .store _ _ _ => false
  | .convert _ dst _ => match P.underlying dst with
    | some (.slice _) => false
    | _ => true
  | .call { callee := .builtin .append, args := _, argTypes := _ } => false
  | .call { callee := .value _, args := _, argTypes := _ } => false
  | _ => true
def areq (P : Program) (tb : Tb) (s : St) (op : Op) : Option Rq := bif isVal P op then areqV P s op else areqN P tb s op
end Go.Sym
/- Operations that make or change memory: what they ask for is enough. -/
namespace Go.Sym
open Go.RowKit
variable [LC]

omit [LC] in
mutual
theorem lend_eq {hp : List (Nat × Box)} : ∀ {x : AV}, hasOwn1 x = false → lend hp x = x
  | .agg xs, h => by simp only [lend]; rw [lends_eq (xs := xs) h]
  | .own k, h => by cases h
  | .undef, _ => rfl
  | .int _ _, _ => rfl
  | .byte _, _ => rfl
  | .bool _, _ => rfl
  | .str _, _ => rfl
  | .sl _ _, _ => rfl
  | .arr _ _, _ => rfl
  | .rop _, _ => rfl
  | .val _, _ => rfl
  | .tup _, _ => rfl
  | .ptr _ _, _ => rfl
  | .oel _ _ _ _, _ => rfl
  | .osl _ _ _, _ => rfl
  | .asl _ _ _, _ => rfl
  | .yld _, _ => rfl
  | .pn _, _ => rfl
  | .fn _ _ _, _ => rfl
  | .iface _ _, _ => rfl
theorem lends_eq {hp : List (Nat × Box)} : ∀ {xs : List AV}, hasOwn xs = false → lends hp xs = xs
  | [], _ => rfl
  | x :: xs, h => by
    simp only [hasOwn, Bool.or_eq_false_iff] at h
    simp only [lends, lends_eq h.2, lend_eq h.1]
end
omit [LC] in
theorem nilN_eq {nm : NM} (h : nilN nm = true) : nm = [] := by cases nm with
  | nil => rfl
  | cons _ _ => cases h
omit [LC] in
theorem bput_nil : ∀ {l : List (Nat × BPt)} {d : bden l}, nilB l = true → bput l d = []
  | [], _, _ => rfl
  | _ :: _, _, h => by cases h
omit [LC] in
theorem keyIs_eq {f : FuncId} {k : Key} (h : keyIs f k = true) : k = .fn f := by
  cases k with
  | fn f' => rw [Nat.eq_of_beq_eq_true (show Nat.beq f' f = true from h)]
  | yld _ => cases h
  | ext _ => cases h
omit [LC] in
theorem firstQ_mem {g : Ent → Option Rq} : ∀ {es : List Ent} {q : Rq}, firstQ g es = some q → ∃ e ∈ es, g e = some q
  | [], _, h => by cases h
  | e :: es, q, h => by
    simp only [firstQ] at h
    split at h
    · rename_i q' hq
      have h := Option.some.inj h; subst h
      exact ⟨e, List.mem_cons_self, hq⟩
    · obtain ⟨e', h1, h2⟩ := firstQ_mem h
      exact ⟨e', List.mem_cons_of_mem _ h1, h2⟩
/-- a call that sees data -/
theorem callQ_ok {P : Program} {s : St} {f : FuncId} {xs : List AV} {e : Ent} {q : Rq} {d : D} (he : e.Sound P) (h : callQ s f xs e = some q) (ho : q.Out d) :
    ∃ b ys r hp' ps, d = .res b ys r hp' ∧ vws b s.hp xs ys = some ps ∧ Alls ps ∧ Plain P f ∧ CallsTo P f ys [] r hp' ∧ (b = true → Alls (noRefHp hp')) := by
  unfold callQ at h
  cases hk : keyIs f e.key && nilB e.hp && (!(hasOwn xs) || e.out.rows) <;> rw [hk] at h <;> simp only [cond_true, cond_false, reduceCtorEq] at h
  simp only [Bool.and_eq_true] at hk
  obtain ⟨⟨hk1, hk2⟩, hk3⟩ := hk
  split at h
  · rename_i x nm hg
    split at h
    · rename_i x' nm' hg'
      cases hn : nilN nm' <;> rw [hn] at h <;> simp only [cond_true, cond_false, reduceCtorEq, Option.some.injEq] at h
      subst h
      have hn := nilN_eq hn; subst hn
      obtain ⟨y, hy, hd⟩ := ho
      have hd := RS.sp_out hd
      have hs := he x x' y hy
      rw [keyIs_eq hk1] at hs
      simp only at hs
      rw [bput_nil hk2] at hs
      have hseen := (Pts.get_seen hg).2 [] rfl (fun n m hh => by have := (bget_seen hg').1 n m hh; cases this)
      have key : ∃ ps, vws (hasOwn xs) s.hp xs (Pts.put e.args x) = some ps ∧ Alls ps := by
        cases hb : hasOwn xs
        · rw [lends_eq hb] at hseen
          obtain ⟨ps, h1, h2⟩ := hseen
          exact vws_bare noIfs_put h1 h2
        · exact vws_lend noIfs_put hseen
      obtain ⟨ps, k1, k2⟩ := key
      refine ⟨hasOwn xs, Pts.put e.args x, _, _, ps, hd, k1, k2, hs.1, hs.2, fun hb => ?_⟩
      rw [hb] at hk3
      exact RS.rows_ok (by simpa using hk3)
    · cases h
  · cases h
omit [LC] in
theorem order_look {nm : NM} : ∀ {l : List (Nat × BPt)} {n m : Nat}, lookN nm n = some m → (∃ e ∈ l, e.1 = n) → lookN (order nm l) n = some m
  | [], n, m, _, ⟨e, he, _⟩ => by cases he
  | (k, p) :: r, n, m, h, ⟨e, he, hn⟩ => by
    simp only [order]
    cases hq : Nat.beq k n
    · have hr : ∃ e ∈ r, e.1 = n := by
        rcases List.mem_cons.1 he with rfl | he
        · simp only at hn; subst hn; simp at hq
        · exact ⟨e, he, hn⟩
      split
      · simp only [lookN, hq, cond_false]; exact order_look h hr
      · exact order_look h hr
    · have := Nat.eq_of_beq_eq_true hq; subst this
      rw [h]; simp [lookN]
omit [LC] in
theorem bget_view {hp : List (Nat × Box)} {N M : NM} (hN : distinctOld N = true) : ∀ {l : List (Nat × BPt)} {nm nm' : NM} {d : bden l}, bget hp l nm = some (d, nm') → SubN nm' M → SubN nm' N → ∀ {hpv : List (Nat × Box)} {ps : List Prop},
    viewHp (rho N) hp (order M l) = some hpv → vwHp hpv (bput l d) = some ps → Alls ps
  | [], nm, nm', d, h, _, _, hpv, ps, hv, hw => by
    simp only [order, viewHp, Option.some.injEq] at hv; subst hv
    have := Option.some.inj (show some [] = some ps from hw); subst this; trivial
  | (j, p) :: r, nm, nm', d, h, hM, hS, hpv, ps, hv, hw => by
    have h : (match lookN nm j with
      | some old => match look hp old with
        | some b => match p.get b nm with
          | some (d, nm') => match bget hp r nm' with
            | some (ds, nm'') => some ((d, ds), nm'')
            | none => none
          | none => none
        | none => none
      | none => none) = some (d, nm') := h
    split at h
    · rename_i old ho
      split at h
      · rename_i b hb
        split at h
        · rename_i d1 nm1 h1
          split at h
          · rename_i d2 nm2 h2
            simp only [Option.some.injEq] at h; obtain ⟨rfl, rfl⟩ := h
            obtain ⟨a1, a2⟩ := BPt.get_seen h1
            obtain ⟨b1, _⟩ := bget_seen h2
            have hj : lookN M j = some old := hM _ _ (b1 _ _ (a1 _ _ ho))
            simp only [order, hj, viewHp, hb] at hv
            split at hv
            · rename_i b' l' e1 e2
              simp only [Option.some.injEq] at e1 hv; subst e1 hv
              have hw : (bif Nat.beq j j then (match vwB (renB (rho N) b) (p.put d1), vwHp l' (bput r d2) with
                | some ps, some qs => some (ps ++ qs)
                | _, _ => none) else none) = some ps := hw
              rw [show Nat.beq j j = true by simp] at hw
              simp only [cond_true] at hw
              split at hw
              · rename_i p1 p2 w1 w2
                have := Option.some.inj hw; subst this
                obtain ⟨p1', s1, s2⟩ := a2 N hN (b1.trans hS)
                rw [w1] at s1; have := Option.some.inj s1; subst this
                exact Alls_append.2 ⟨s2, bget_view hN h2 hM hS e2 w2⟩
              · cases hw
            · cases hv
          · cases h
        · cases h
      · cases h
    · cases h
omit [LC] in
/-- a call that sees own memory -/
theorem memQ_ok {s : St} {ys : List AV} {nm0 : NM} {e : Ent} {q : Rq} {d : D} (h : memQ s ys nm0 e = some q) (ho : q.Out d) :
    ∃ N x x' y, e.F x x' = some y ∧ d = .mem N (Pts.put e.args x) (bput e.hp x') (e.out.res y).1 (e.out.res y).2 ∧ distinctOld N = true ∧ SubN nm0 N ∧
      (∀ ps, vws false [] (AV.rens (rho N) ys) (Pts.put e.args x) = some ps → Alls ps) ∧ ∀ hpv ps, viewHp (rho N) s.hp N = some hpv → vwHp hpv (bput e.hp x') = some ps → Alls ps := by
  unfold memQ at h
  split at h
  · rename_i x nm hg
    split at h
    · rename_i x' nm' hg'
      cases hk : distinctOld (order nm' e.hp) && allIn nm' e.hp <;> rw [hk] at h <;> simp only [cond_true, cond_false, reduceCtorEq, Option.some.injEq] at h
      subst h
      simp only [Bool.and_eq_true] at hk
      obtain ⟨y, hy, hd⟩ := ho
      have hsub : SubN nm' (order nm' e.hp) := fun n m hh => order_look hh (allIn_spec hk.2 n m hh)
      obtain ⟨g1, g2⟩ := Pts.get_seen hg
      obtain ⟨g1', _⟩ := bget_seen hg'
      refine ⟨order nm' e.hp, x, x', y, hy, RS.sp_out hd, hk.1, g1.trans (g1'.trans hsub), fun ps hv => ?_, fun hpv ps hv hw => bget_view hk.1 hg' (SubN.refl _) hsub hv hw⟩
      obtain ⟨ps', h1, h2⟩ := g2 _ hk.1 (g1'.trans hsub)
      rw [hv] at h1; have := Option.some.inj h1; subst this; exact h2
    · cases h
  · cases h
omit [LC] in
theorem memCall_ok {s s' : St} {q : Prop} {ys xs : List AV} {names : List (Nat × Nat)} {hp hp' : List (Nat × Box)} {r : AV} {t : Nat} {ps : List Prop} (h : memCall s q ys names xs hp r hp' t = some (ps, s')) (hq : q)
    (h1 : ∀ ps, vws false [] (AV.rens (rho names) ys) xs = some ps → Alls ps) (h2 : ∀ hpv ps, viewHp (rho names) s.hp names = some hpv → vwHp hpv hp = some ps → Alls ps) : Alls ps := by
  unfold memCall at h
  cases hb : distinctOld names && distinctNew names && noRange (s.nx + 32 * t) s.hp && Nat.blt t s.n <;> rw [hb] at h <;> simp only [cond_true, cond_false, reduceCtorEq] at h
  split at h
  · rename_i hpv ps1 e1 e2
    split at h
    · rename_i ps2 e3
      simp only [Option.some.injEq, Prod.mk.injEq] at h; obtain ⟨rfl, _⟩ := h
      exact ⟨hq, Alls_append.2 ⟨h1 _ e2, h2 _ _ e1 e3⟩⟩
    · cases h
  · cases h
omit [LC] in
theorem isVal_none {P : Program} {s : St} {d : D} {op : Op} (h : isVal P op = false) : aval P s d op = none := by
  unfold isVal at h
  split at h <;> first
    | rfl
    | cases h
    | (split at h
       · rename_i src dst x _ E hE
         simp only [aval, hE]
         have hc : ∀ v, aConv P dst v = none := fun v => by
           unfold aConv
           rw [hE]
         have hc' : ∀ v, aConvC P dst v = none := fun v => by
           unfold aConvC
           split
           · rw [hc]
           · rw [hc]
         cases P.underlying src <;> cases s.ev x <;> simp [hc']
       · cases h)
end Go.Sym
/- What an operation asks for is enough. -/
namespace Go.Sym
open Go.RowKit
variable [LC]

theorem isVal_new {P : Program} {s : St} {d : D} {o : Oper} (h : isVal P o.op = true) : anew P s d o = none := by
  obtain ⟨dst, op, ty, pos, after, guard⟩ := o
  simp only at h
  cases hA : anew P s d ⟨dst, op, ty, pos, after, guard⟩ with
  | none => rfl
  | some R =>
    exfalso
    unfold anew at hA
    split at hA
    · rename_i e _; simp only at e; subst e; cases h
    · rename_i e _; simp only at e; subst e; cases h
    · rename_i e _; simp only at e; subst e; cases h
    · rename_i e _; simp only at e; subst e; cases h
    · rename_i e _; simp only at e; subst e; cases h
    · rename_i e _; simp only at e; subst e
      split at hA
      · rename_i e2 _; simp only [isVal, e2] at h; cases h
      · cases hA
    · cases hA
theorem isVal_mod {P : Program} {s : St} {d : D} {o : Oper} (h : isVal P o.op = true) : amod P s d o = none := by
  obtain ⟨dst, op, ty, pos, after, guard⟩ := o
  simp only at h
  cases hA : amod P s d ⟨dst, op, ty, pos, after, guard⟩ with
  | none => rfl
  | some R =>
    exfalso
    unfold amod at hA
    split at hA
    · rename_i e; simp only at e; subst e; cases h
    · rename_i e; simp only at e; subst e; cases h
    · rename_i e; simp only at e; subst e; cases h
    · cases hA
omit [LC] in
theorem appQ_nil {P : Program} {tb : Tb} {s : St} {t t2 : TypeId} {y : AV} {q : Rq} {d : D} {ps : List Prop} {b : Box} (h : appQ P tb s t (.val (.slice none 0 0)) y = some q) (ho : q.Out d) (ha : aAppend P s d t t2 [] 0 y = some (ps, b)) : Alls ps := by
  unfold appQ at h
  simp only at h
  unfold aAppend at ha
  split at h
  · rename_i E hE
    split at h
    · rename_i τ hτ
      split at h
      · rename_i m hm
        have h := Option.some.inj h; subst h
        obtain ⟨h1, rfl⟩ := ho
        simp only [hE] at ha
        split at ha
        · rename_i sz flat n e1 e2
          obtain ⟨k1, k2⟩ := lstOf_src hm e2
          cases hq : Nat.beq τ.sz sz && Nat.beq E E && zeroFine P E && notInt P t2 <;> rw [hq] at ha <;> simp only [cond_true, cond_false, reduceCtorEq, Option.some.injEq, Prod.mk.injEq] at ha
          obtain ⟨rfl, _⟩ := ha
          exact ⟨by rw [k1]; rfl, by omega, of_decide_eq_true h1, trivial⟩
        · cases ha
      · cases h
    · cases h
  · cases h
omit [LC] in
theorem appQ_own {P : Program} {tb : Tb} {s : St} {t t2 : TypeId} {k : Nat} {τ0 : Ty} {l0 : List τ0.den} {E0 : TypeId} {y : AV} {q : Rq} {d : D} {ps : List Prop} {b : Box} (hk : look s.hp k = some (.row τ0 l0 E0)) (h : appQ P tb s t (.own k) y = some q) (ho : q.Out d) (ha : aAppend P s d t t2 (l0.flatMap τ0.enc) l0.length y = some (ps, b)) : Alls ps := by
  unfold appQ at h
  simp only [hk] at h
  unfold aAppend at ha
  split at h
  · rename_i m hm
    have h := Option.some.inj h; subst h
    obtain ⟨h1, rfl⟩ := ho
    split at ha
    · rename_i E _ _ _ e0 ed
      simp only [D.row.injEq, Box.row.injEq] at ed
      obtain ⟨rfl, ed, rfl⟩ := ed
      have ed := eq_of_heq ed; subst ed
      split at ha
      · rename_i sz flat n e1 e2
        obtain ⟨k1, k2⟩ := lstOf_src hm e2
        cases hq : Nat.beq τ0.sz sz && Nat.beq E E0 && zeroFine P E && notInt P t2 <;> rw [hq] at ha <;> simp only [cond_true, cond_false, reduceCtorEq, Option.some.injEq, Prod.mk.injEq] at ha
        obtain ⟨rfl, _⟩ := ha
        exact ⟨by rw [k1, List.flatMap_append], by rw [k2, List.length_append], of_decide_eq_true h1, trivial⟩
      · cases ha
    · cases ha
  · cases h
theorem areqN_new {P : Program} {tb : Tb} {s : St} {o : Oper} {q : Rq} {d : D} {ps : List Prop} {v : AV} {new : List (Nat × Box)} (hT : ∀ e ∈ tb.ents, e.Sound P) (hv : isVal P o.op = false) (h : areqN P tb s o.op = some q) (ho : q.Out d) (ha : anew P s d o = some (ps, v, new)) : Alls ps := by
  obtain ⟨dst, op, ty, pos, after, guard⟩ := o
  simp only at h hv
  have cnd : ∀ {b : Bool} {x : AV} {y : List (Nat × Box)} {ps0 ps : List Prop} {v : AV} {new : List (Nat × Box)}, (bif b then some (ps0, x, y) else none) = some (ps, v, new) → Alls ps0 → Alls ps := fun {b} _ _ _ _ _ _ e k => by
    cases b
    · cases e
    · simp only [cond_true, Option.some.injEq, Prod.mk.injEq] at e; obtain ⟨rfl, _⟩ := e; exact k
  unfold anew at ha
  split at ha
  · split at ha
    · exact cnd ha trivial
    · cases ha
  · split at ha
    · exact cnd ha trivial
    · cases ha
  · rename_i g args ats t e _
    simp only at e; subst e
    split at ha
    · rename_i f cap xs b xs' r hp' e1 e2
      split at ha
      · rename_i ps1 hps
        refine cnd ha ?_
        simp only [areqN, e1, e2] at h
        have key : ∀ e ∈ tb.ents, callQ s f (xs ++ cap) e = some q → Alls (Plain P f :: CallsTo P f xs' [] r hp' :: (ps1 ++ (bif b then noRefHp hp' else []))) := fun e he hc => by
          obtain ⟨b1, ys, r1, hp1, ps2, k1, k2, k3, k4, k5, k6⟩ := callQ_ok (hT e he) hc ho
          simp only [D.res.injEq] at k1
          obtain ⟨rfl, rfl, rfl, rfl⟩ := k1
          rw [hps] at k2; have := Option.some.inj k2; subst this
          refine ⟨k4, k5, Alls_append.2 ⟨k3, ?_⟩⟩
          cases b
          · trivial
          · exact k6 rfl
        split at h
        · rename_i q' hq
          have h := Option.some.inj h; subst h
          obtain ⟨e, he, hc⟩ := firstQ_mem hq
          exact key e he hc
        · exfalso
          obtain ⟨e, he, hc⟩ := firstQ_mem h
          unfold callMQ at hc
          cases hk : keyIs f e.key <;> rw [hk] at hc <;> simp only [cond_true, cond_false, reduceCtorEq] at hc
          obtain ⟨N, x, x', y, _, k2, _⟩ := memQ_ok hc ho
          cases k2
      · cases ha
    · cases ha
  · rename_i args ats tt e _
    simp only at e; subst e
    split at ha
    · rename_i x y t t2 e1 e2
      split at ha
      · rename_i v' e3 e4
        split at ha
        · rename_i ps1 b e5
          refine cnd ha ?_
          simp only [areqN, e1, e2, e3, e4] at h
          exact appQ_nil h ho e5
        · cases ha
      · cases ha
    · cases ha
  · rename_i t len parts tt e _
    simp only at e; subst e
    split at ha
    · rename_i ps1 b e1
      refine cnd ha ?_
      simp only [areqN] at h
      unfold sliceQ at h
      unfold aBuildSlice at e1
      split at h
      · rename_i E hE
        split at h
        · have h := Option.some.inj h; subst h
          have ho : d = _ := ho
          subst ho
          simp [hE] at e1
        · rename_i τ sz ps2 i1 i2 i3
          split at h
          · rename_i cs hcs
            split at h
            · rename_i l hl
              have h := Option.some.inj h; subst h
              have ho : d = _ := ho
              subst ho
              simp only [hE, i2, i3, hcs] at e1
              cases hq : Nat.beq τ.sz sz && Nat.beq E E && zeroFine P E && Nat.ble (len * τ.sz) 16777216 && AV.ones cs <;> rw [hq] at e1 <;> simp only [cond_true, cond_false, reduceCtorEq] at e1
              obtain ⟨⟨j1, ps3, j2, j3⟩, j4⟩ := decMany_seen hl
              rw [j2] at e1
              simp only [Option.some.injEq, Prod.mk.injEq] at e1
              obtain ⟨rfl, _⟩ := e1
              exact Alls_append.2 ⟨j3, j4, j1 _, trivial⟩
            · cases h
          · cases h
        · cases h
      · cases h
    · split at ha
      · exact cnd ha trivial
      · cases ha
  · rename_i src dst x tt e _
    simp only at e; subst e
    split at ha
    · rename_i E b e1 e2 e3
      split at ha
      · refine cnd ha ?_
        simp only [areqN, e3, Option.some.injEq] at h; subst h
        exact ⟨of_decide_eq_true ho.1, trivial⟩
      · cases ha
    · cases ha
  · cases ha
omit [LC] in
theorem splice_right : ∀ (ys a b : List AV) (k : Nat), splice (a ++ b) (a.length + k) ys = a ++ splice b k ys
  | [], _, _, _ => rfl
  | y :: ys, a, b, k => by
    simp only [splice]
    rw [List.set_append_right _ _ (by omega), Nat.add_sub_cancel_left, Nat.add_assoc]
    exact splice_right ys a (b.set k y) (k + 1)
omit [LC] in
theorem splice_left : ∀ (ys a b : List AV) (k : Nat), k + ys.length ≤ a.length → splice (a ++ b) k ys = splice a k ys ++ b
  | [], _, _, _, _ => rfl
  | y :: ys, a, b, k, h => by
    simp only [List.length_cons] at h
    simp only [splice]
    rw [List.set_append_left _ _ (by omega)]
    exact splice_left ys (a.set k y) b (k + 1) (by rw [List.length_set]; omega)
omit [LC] in
theorem splice_get : ∀ (ys a : List AV) (k j : Nat), k + ys.length ≤ a.length → (splice a k ys)[j]? = if k ≤ j ∧ j < k + ys.length then ys[j - k]? else a[j]?
  | [], a, k, j, _ => by simp only [splice, List.length_nil]; rw [if_neg (by omega)]
  | y :: ys, a, k, j, h => by
    simp only [List.length_cons] at h
    simp only [splice]
    rw [splice_get ys (a.set k y) (k + 1) j (by rw [List.length_set]; omega)]
    simp only [List.length_cons]
    by_cases h1 : k + 1 ≤ j ∧ j < k + 1 + ys.length
    · rw [if_pos h1, if_pos (by omega), show j - k = (j - (k + 1)) + 1 by omega]; simp
    · rw [if_neg h1]
      by_cases h2 : j = k
      · subst h2; rw [if_pos (by omega)]; simp [show j < a.length by omega]
      · rw [if_neg (by omega), List.getElem?_set_ne (by omega)]
omit [LC] in
theorem splice_row {τ : Ty} {y : τ.den} {ys : List AV} {off : Nat} : ∀ {l : List τ.den} {i : Nat} {x : τ.den}, l[i]? = some x → off + ys.length ≤ τ.sz → τ.enc y = splice (τ.enc x) off ys → (l.set i y).flatMap τ.enc = splice (l.flatMap τ.enc) (i * τ.sz + off) ys
  | [], _, _, h, _, _ => by simp at h
  | z :: l, 0, x, h, ho, he => by
    simp only [List.getElem?_cons_zero, Option.some.injEq] at h; subst h
    simp only [List.set_cons_zero, List.flatMap_cons, Nat.zero_mul, Nat.zero_add]
    rw [splice_left _ _ _ _ (by rw [τ.enc_length]; exact ho), he]
  | z :: l, i + 1, x, h, ho, he => by
    simp only [List.getElem?_cons_succ] at h
    simp only [List.set_cons_succ, List.flatMap_cons]
    rw [show (i + 1) * τ.sz + off = (τ.enc z).length + (i * τ.sz + off) by rw [τ.enc_length, Nat.succ_mul]; omega, splice_right, splice_row h ho he]
omit [LC] in
theorem vws_get {b : Bool} {hp : List (Nat × Box)} : ∀ {xs ys : List AV} {ps : List Prop}, vws b hp xs ys = some ps → Alls ps → ∀ (j : Nat) (x y : AV), xs[j]? = some x → ys[j]? = some y → ∃ qs, vw b hp x y = some qs ∧ Alls qs
  | x :: xs, y :: ys, ps, h, hp, j, u, v, hu, hv => by
    simp only [vws] at h
    split at h
    · rename_i p1 h1
      split at h
      · rename_i p2 h2
        have := Option.some.inj h; subst this
        cases j with
        | zero => simp only [List.getElem?_cons_zero, Option.some.injEq] at hu hv; subst hu hv; exact ⟨p1, h1, (Alls_append.1 hp).1⟩
        | succ j => exact vws_get h2 (Alls_append.1 hp).2 j u v (by simpa using hu) (by simpa using hv)
      · cases h
    · cases h
  | [], [], _, _, _, j, _, _, hu, _ => by simp at hu
  | [], _ :: _, _, h, _, _, _, _, _, _ => by simp [vws] at h
  | _ :: _, [], _, h, _, _, _, _, _, _ => by simp [vws] at h
omit [LC] in
theorem vws_alls {b : Bool} {hp : List (Nat × Box)} : ∀ {xs ys : List AV} {ps : List Prop}, vws b hp xs ys = some ps → (∀ (j : Nat) (x y : AV), xs[j]? = some x → ys[j]? = some y → ∃ qs, vw b hp x y = some qs ∧ Alls qs) → Alls ps
  | x :: xs, y :: ys, ps, h, hq => by
    simp only [vws] at h
    split at h
    · rename_i p1 h1
      split at h
      · rename_i p2 h2
        have := Option.some.inj h; subst this
        obtain ⟨q1, e1, a1⟩ := hq 0 x y rfl rfl
        rw [h1] at e1; have := Option.some.inj e1; subst this
        exact Alls_append.2 ⟨a1, vws_alls h2 fun j u v hu hv => hq (j + 1) u v (by simpa using hu) (by simpa using hv)⟩
      · cases h
    · cases h
  | [], [], _, h, _ => by simp only [vws, Option.some.injEq] at h; subst h; trivial
  | [], _ :: _, _, h, _ => by simp [vws] at h
  | _ :: _, [], _, h, _ => by simp [vws] at h
omit [LC] in
theorem enc_data : ∀ {τ : Ty} {d : τ.den}, ∀ x ∈ τ.enc d, isData x = true
  | .int _, _, x, h => by simp only [Ty.enc, List.mem_singleton] at h; subst h; rfl
  | .byte, _, x, h => by simp only [Ty.enc, List.mem_singleton] at h; subst h; rfl
  | .bool, _, x, h => by simp only [Ty.enc, List.mem_singleton] at h; subst h; rfl
  | .str, _, x, h => by simp only [Ty.enc, List.mem_singleton] at h; subst h; rfl
  | .unit, _, x, h => by simp [Ty.enc] at h
  | .prod a b, d, x, h => by
    rcases List.mem_append.1 h with h | h
    · exact enc_data x h
    · exact enc_data x h
  | .list _, _, x, h => by simp only [Ty.enc, List.mem_singleton] at h; subst h; rfl
  | .tree a, d, x, h => by
    rcases List.mem_append.1 h with h | h
    · exact enc_data x h
    · simp only [List.mem_singleton] at h; subst h; rfl
omit [LC] in
theorem vw_data {x y : AV} (hx : isData x = true) (hy : isData y = true) {qs : List Prop} (h : vw false [] x y = some qs) (hq : Alls qs) : y = x := by
  cases x <;> first | cases hx | skip
  all_goals (cases y <;> first | cases hy | skip)
  all_goals (have := Option.some.inj h; subst this; exact hq.1)
omit [LC] in
theorem rens_get {ρ : Nat → Option Nat} : ∀ {xs : List AV} {j : Nat}, (AV.rens ρ xs)[j]? = (xs[j]?).map (AV.ren ρ)
  | [], j => by simp [AV.rens]
  | x :: xs, 0 => by simp [AV.rens]
  | x :: xs, j + 1 => by simp only [AV.rens, List.getElem?_cons_succ]; exact rens_get
omit [LC] in
theorem storeQ_ok {τ : Ty} {l : List τ.den} {i off : Nat} {x y : τ.den} {c : List AV} {ps : List Prop} (ho : off + c.length ≤ τ.sz) (hx : l[i]? = some x) (hd : τ.dec (splice (τ.enc x) off c) = some (y, []))
    (hv : vws false [] c (((τ.enc y).drop off).take c.length) = some ps) :
    Alls (ps ++ [i * τ.sz + off + c.length ≤ l.length * τ.sz, (l.set i y).flatMap τ.enc = splice (l.flatMap τ.enc) (i * τ.sz + off) (((τ.enc y).drop off).take c.length), (l.set i y).length = l.length, AV.rens (fun _ => none) c = c]) := by
  obtain ⟨pre, e1, hr, qs, hq1, hq2⟩ := dec_seen hd
  simp only [List.append_nil] at e1
  subst e1
  have hle : off + c.length ≤ (τ.enc x).length := by rw [τ.enc_length]; exact ho
  have hlen : (((τ.enc y).drop off).take c.length).length = c.length := by simp [τ.enc_length]; omega
  have hseg : ∀ (j : Nat) (z u : AV), c[j]? = some z → (((τ.enc y).drop off).take c.length)[j]? = some u → ∃ qs, vw false [] z u = some qs ∧ Alls qs := fun j z u h1 h2 => by
    have hj : j < c.length := (List.getElem?_eq_some_iff.1 h1).1
    refine vws_get hq1 hq2 (off + j) z u ?_ ?_
    · rw [splice_get _ _ _ _ hle, if_pos (by omega), Nat.add_sub_cancel_left]; exact h1
    · rw [List.getElem?_take, if_pos hj, List.getElem?_drop] at h2; exact h2
  have he : τ.enc y = splice (τ.enc x) off (((τ.enc y).drop off).take c.length) := by
    apply List.ext_getElem?
    intro j
    rw [splice_get _ _ _ _ (by rw [hlen]; exact hle), hlen]
    by_cases hj : off ≤ j ∧ j < off + c.length
    · rw [if_pos hj, List.getElem?_take, if_pos (by omega), List.getElem?_drop, show off + (j - off) = j by omega]
    · rw [if_neg hj]
      cases hz : (τ.enc x)[j]? with
      | none =>
        have := List.getElem?_eq_none_iff.1 hz
        rw [τ.enc_length] at this
        exact List.getElem?_eq_none_iff.2 (by rw [τ.enc_length]; exact this)
      | some z =>
        have hjl : j < τ.sz := by have := (List.getElem?_eq_some_iff.1 hz).1; rwa [τ.enc_length] at this
        have hu : ∃ u, (τ.enc y)[j]? = some u := ⟨_, List.getElem?_eq_getElem (by rw [τ.enc_length]; exact hjl)⟩
        obtain ⟨u, hu⟩ := hu
        obtain ⟨q, q1, q2⟩ := vws_get hq1 hq2 j z u (by rw [splice_get _ _ _ _ hle, if_neg hj]; exact hz) hu
        rw [hu, vw_data (enc_data z (List.mem_of_getElem? hz)) (enc_data u (List.mem_of_getElem? hu)) q1 q2]
  refine Alls_append.2 ⟨vws_alls hv hseg, ?_, splice_row hx (by rw [hlen]; exact ho) he, by simp, ?_, trivial⟩
  · have hi : i < l.length := (List.getElem?_eq_some_iff.1 hx).1
    have : (i + 1) * τ.sz ≤ l.length * τ.sz := Nat.mul_le_mul_right _ hi
    rw [Nat.succ_mul] at this
    omega
  · apply List.ext_getElem?
    intro j
    have h := congrArg (fun l => l[off + j]?) (hr (fun _ => none))
    simp only [rens_get] at h ⊢
    by_cases hj : j < c.length
    · rw [splice_get _ _ _ _ hle, if_pos (by omega), Nat.add_sub_cancel_left] at h; exact h
    · rw [List.getElem?_eq_none_iff.2 (by omega)]; rfl
theorem areqN_mod {P : Program} {tb : Tb} {s : St} {o : Oper} {q : Rq} {d : D} {ps : List Prop} {s' : St} (hT : ∀ e ∈ tb.ents, e.Sound P) (h : areqN P tb s o.op = some q) (ho : q.Out d) (ha : amod P s d o = some (ps, s')) : Alls ps := by
  obtain ⟨dst, op, ty, pos, after, guard⟩ := o
  simp only at h
  have cnd : ∀ {b : Bool} {x : St} {ps : List Prop} {s' : St}, (bif b then some (([] : List Prop), x) else none) = some (ps, s') → Alls ps := fun {b} _ _ _ e => by
    cases b
    · cases e
    · simp only [cond_true, Option.some.injEq, Prod.mk.injEq] at e; obtain ⟨rfl, _⟩ := e; trivial
  unfold amod at ha
  split at ha
  · rename_i t x y e
    simp only at e; subst e
    split at ha
    · split at ha
      · exact cnd ha
      · cases ha
    · rename_i k sz i off v n e1 e2 e3 _
      split at ha
      · rename_i τ0 l0 E0 ys τ l E e4
        simp only [areqN, e1, e2, storeQ, e4] at h
        cases hbb : Nat.ble (off + v.cells.length) τ0.sz <;> rw [hbb] at h <;> simp only [cond_true, cond_false, reduceCtorEq, Option.some.injEq] at h
        subst h
        obtain ⟨x0, hx0, hd⟩ := ho
        simp only [Sp.Out] at hd
        split at hd
        · rename_i y0 hdec
          simp only [D.put.injEq, Box.row.injEq] at hd
          obtain ⟨rfl, rfl, hl, rfl⟩ := hd
          have hl := eq_of_heq hl
          subst hl
          cases hb : Nat.beq v.cells.length n && AV.ones v.cells && Nat.beq sz τ.sz && Nat.beq τ.sz τ.sz && Nat.beq E E <;> rw [hb] at ha <;> simp only [cond_true, cond_false, reduceCtorEq] at ha
          simp only [Bool.and_eq_true] at hb
          obtain ⟨⟨⟨⟨b1, _⟩, b3⟩, _⟩, _⟩ := hb
          have b1 := Nat.eq_of_beq_eq_true b1
          have b3 := Nat.eq_of_beq_eq_true b3
          subst b1 b3
          split at ha
          · rename_i ps1 hvs
            simp only [Option.some.injEq, Prod.mk.injEq] at ha
            obtain ⟨rfl, _⟩ := ha
            exact storeQ_ok (Nat.le_of_ble_eq_true hbb) hx0 hdec hvs
          · cases ha
        · cases hd
      · cases ha
    · cases ha
  · rename_i args ats e
    simp only at e; subst e
    split at ha
    · rename_i x y t t2 tt e1 e2 _
      split at ha
      · rename_i k v e3 e4
        split at ha
        · rename_i τ0 l0 E0 e5
          split at ha
          · rename_i ps1 τ l E e6
            simp only [areqN, e1, e2, e3, e4] at h
            cases hb : noRange (s.nx + 32 * tt) s.hp && Nat.beq τ.sz τ0.sz && Nat.beq E E0 && Nat.blt tt s.n <;> rw [hb] at ha <;> simp only [cond_true, cond_false, reduceCtorEq, Option.some.injEq, Prod.mk.injEq] at ha
            obtain ⟨rfl, _⟩ := ha
            exact appQ_own e5 h ho e6
          · cases ha
        · cases ha
      · cases ha
    · cases ha
  · rename_i g args ats e
    simp only at e; subst e
    split at ha
    · rename_i f cap ys names xs hp r hp' t e1 e2 e3
      simp only [areqN, e1, e2] at h
      split at h
      · rename_i q' hq
        have h := Option.some.inj h; subst h
        obtain ⟨e, he, hc⟩ := firstQ_mem hq
        obtain ⟨b1, ys1, r1, hp1, ps2, k1, _⟩ := callQ_ok (hT e he) hc ho
        cases k1
      · obtain ⟨e, he, hc⟩ := firstQ_mem h
        unfold callMQ at hc
        cases hk : keyIs f e.key <;> rw [hk] at hc <;> simp only [cond_true, cond_false, reduceCtorEq] at hc
        obtain ⟨N, x, x', y, k1, k2, k3, k4, k5, k6⟩ := memQ_ok hc ho
        simp only [D.mem.injEq] at k2
        obtain ⟨rfl, rfl, rfl, rfl, rfl⟩ := k2
        have hs := hT e he x x' y k1
        rw [keyIs_eq hk] at hs
        exact memCall_ok ha hs k5 k6
    · rename_i m ys names xs hp r hp' t e1 e2 e3
      simp only [areqN, e1, e2] at h
      obtain ⟨e, he, hc⟩ := firstQ_mem h
      unfold yldQ at hc
      split at hc
      · rename_i m' hm'
        obtain ⟨N, x, x', y, k1, k2, k3, k4, k5, k6⟩ := memQ_ok hc ho
        simp only [D.mem.injEq] at k2
        obtain ⟨rfl, rfl, rfl, rfl, rfl⟩ := k2
        have hs := hT e he x x' y k1
        rw [hm'] at hs
        have hr : rho names m = some m' := rho_of k3 (k4 _ _ (by simp [lookN]))
        simp only [hr] at ha
        exact memCall_ok ha hs k5 k6
      · cases hc
    · cases ha
  · cases ha
theorem areq_ok {P : Program} {tb : Tb} {s : St} {o : Oper} {q : Rq} {d : D} {ps : List Prop} {s' : St} (hT : ∀ e ∈ tb.ents, e.Sound P) (h : areq P tb s o.op = some q) (ho : q.Out d) (ha : aex P s d o = some (ps, s')) : Alls ps := by
  unfold areq at h
  unfold aex at ha
  cases hv : isVal P o.op <;> rw [hv] at h <;> simp only [cond_true, cond_false] at h
  · split at ha
    · rename_i ps' v new e
      unfold aadd at e
      rw [isVal_none hv] at e
      split at ha
      · simp only [Option.some.injEq, Prod.mk.injEq] at ha; obtain ⟨rfl, _⟩ := ha
        exact areqN_new hT hv h ho e
      · cases ha
    · exact areqN_mod hT h ho ha
  · split at ha
    · rename_i ps' v new e
      unfold aadd at e
      split at e
      · rename_i ps1 v1 e1
        simp only [Option.some.injEq, Prod.mk.injEq] at e; obtain ⟨rfl, rfl, rfl⟩ := e
        split at ha
        · simp only [Option.some.injEq, Prod.mk.injEq] at ha; obtain ⟨rfl, _⟩ := ha
          exact areqV_ok h ho e1
        · cases ha
      · rw [isVal_new hv] at e; cases e
    · rw [isVal_mod hv] at ha; cases ha
theorem areq_add {P : Program} {tb : Tb} {s : St} {o : Oper} {q : Rq} {d : D} {ps : List Prop} {v : AV} {new : List (Nat × Box)} (hT : ∀ e ∈ tb.ents, e.Sound P) (h : areq P tb s o.op = some q) (ho : q.Out d) (ha : aadd P s d o = some (ps, v, new)) : Alls ps := by
  unfold areq at h
  unfold aadd at ha
  cases hv : isVal P o.op <;> rw [hv] at h <;> simp only [cond_true, cond_false] at h
  · rw [isVal_none hv] at ha
    exact areqN_new hT hv h ho ha
  · split at ha
    · rename_i ps1 v1 e1
      simp only [Option.some.injEq, Prod.mk.injEq] at ha; obtain ⟨rfl, rfl, rfl⟩ := ha
      exact areqV_ok h ho e1
    · rw [isVal_new hv] at ha; cases ha
end Go.Sym
/- Parts of own slices; clear. -/
namespace Go.Sym
open Go.RowKit
variable [LC]

/-- operations on parts of own slices: what is tested, the state behind it -/
def subOp (P : Program) (tb : Tb) (s : St) (o : Oper) : Option (Bool × St) :=
  bif tb.sub then
    match o.op with
    | .slice t x lo hi mx => match s.ev x, o.dst, mx with
      | some (.own k), some tt, none => match look s.hp k, P.underlying t with
        | some (.row τ l E), some (.slice E') => match tSize P E' with
          | some sz' => bif Nat.beq τ.sz sz' && Nat.blt tt s.n && noRange (s.nx + 32 * tt) s.hp then
              (match evInt s lo, evInt s hi with
              | some (some a), some none => some (decide (0 ≤ a ∧ a.toNat < l.length), { s with fr := (tt, .osl k τ.sz a.toNat) :: s.fr })
              | some none, some (some b) => some (decide (0 ≤ b ∧ b ≤ l.length), { s with fr := (tt, .own (s.nx + 32 * tt)) :: s.fr, hp := (s.nx + 32 * tt, .row τ (l.take b.toNat) E) :: (k, .dead) :: s.hp })
              | _, _ => none)
            else none
          | none => none
        | _, _ => none
      | _, _, _ => none
    | .call { callee := .builtin .clear, args, argTypes } => match args.toList, argTypes.toList, o.dst with
      | [x], [t], none => match s.ev x with
        | some (.osl k sz lo) => match look s.hp k, P.underlying t with
          | some (.row τ l E), some (.slice E') => match tZero P E' with
            | some zs => match τ.dec zs with
              | some (z, []) => bif Nat.beq sz τ.sz && Nat.blt 0 τ.sz && AV.ones zs then some (true, { s with hp := (k, .row τ (l.take lo ++ List.replicate (l.length - lo) z) E) :: s.hp }) else none
              | _ => none
            | none => none
          | _, _ => none
        | _ => none
      | _, _, _ => none
    | _ => none
  else none
section
variable {P : Program} {w₀ : World} {G₀ : Gh} {hp₀ : List (Nat × Box)} {G : Gh} {s : St} {a : Act} {w : World} {tb : Tb}
omit [LC] in
theorem splice_all : ∀ (ys b : List AV), ys.length = b.length → splice b 0 ys = ys := fun ys b h => by
  apply List.ext_getElem?
  intro j
  rw [splice_get _ _ _ _ (by omega)]
  by_cases hj : 0 ≤ j ∧ j < 0 + ys.length
  · rw [if_pos hj]; rfl
  · rw [if_neg hj, List.getElem?_eq_none_iff.2 (by omega), List.getElem?_eq_none_iff.2 (by omega)]
omit [LC] in
theorem flat_replicate {τ : Ty} {z : τ.den} : ∀ (n : Nat), (List.replicate n z).flatMap τ.enc = (List.replicate n (τ.enc z)).flatten
  | 0 => rfl
  | n + 1 => by simp [List.replicate_succ, flat_replicate n]
omit [LC] in
theorem reps_replicate {xs : List AV} {vs : List Value} (h : Reps xs G vs) : ∀ (n : Nat), Reps (List.replicate n xs).flatten G (List.replicate n vs).flatten
  | 0 => trivial
  | n + 1 => by simp only [List.replicate_succ, List.flatten_cons]; exact reps_append h (reps_replicate h n)
omit [LC] in
theorem flat_rep_len {β : Type} (l : List β) : ∀ (n : Nat), (List.replicate n l).flatten.length = n * l.length
  | 0 => by simp
  | n + 1 => by rw [List.replicate_succ, List.flatten_cons, List.length_append, flat_rep_len l n, Nat.succ_mul, Nat.add_comm]
omit [LC] in
theorem flat_rep_get {β : Type} (l : List β) : ∀ (n i : Nat), i < n * l.length → (List.replicate n l).flatten[i]? = l[i % l.length]?
  | 0, i, h => by simp at h
  | n + 1, i, h => by
    rw [List.replicate_succ, List.flatten_cons]
    by_cases hi : i < l.length
    · rw [List.getElem?_append_left hi, Nat.mod_eq_of_lt hi]
    · have hh : i < n * l.length + l.length := by rw [← Nat.succ_mul]; exact h
      rw [List.getElem?_append_right (by omega), flat_rep_get l n (i - l.length) (by omega), ← Nat.mod_eq_sub_mod (by omega)]
omit [LC] in
theorem zeroCells_list (cs : Array Value) (n : Nat) : (Builtin.zeroCells cs n).toList = (List.replicate n cs.toList).flatten := by
  apply List.ext_getElem?
  intro i
  by_cases hi : i < n * cs.size
  · rw [flat_rep_get _ n i (by simpa using hi)]
    have h0 : 0 < cs.size := by rcases Nat.eq_zero_or_pos cs.size with h | h; · rw [h] at hi; simp at hi
                                · exact h
    simp [Builtin.zeroCells, hi, Nat.mod_lt _ h0]
  · rw [List.getElem?_eq_none_iff.2 (by simp [Builtin.zeroCells]; omega), List.getElem?_eq_none_iff.2 (by rw [flat_rep_len]; simp; omega)]
theorem subOp_ok (hr : Rel w₀ G₀ hp₀ G s a w) {o : Oper} {s' : St} (h : subOp P tb s o = some (true, s')) {N : Act → World → Prop} (hN : ∀ G' a' w', Rel w₀ G₀ hp₀ G' s' a' w' → N a' w') : oDoes P o a w N := by
  obtain ⟨dst, op, ty, pos, after, guard⟩ := o
  unfold subOp at h
  cases hsub : tb.sub <;> rw [hsub] at h <;> simp only [cond_true, cond_false, reduceCtorEq] at h
  split at h
  · rename_i t x lo hi mx
    split at h
    · rename_i k tt hx
      split at h
      · rename_i τ l E E' hl hu
        split at h
        · rename_i sz' hsz
          cases hb : Nat.beq τ.sz sz' && Nat.blt tt s.n && noRange (s.nx + 32 * tt) s.hp <;> rw [hb] at h <;> simp only [cond_true, cond_false, reduceCtorEq] at h
          simp only [Bool.and_eq_true, Nat.blt_eq] at hb
          obtain ⟨⟨b1, b2⟩, b3⟩ := hb
          have b1 := Nat.eq_of_beq_eq_true b1
          subst b1
          obtain ⟨ad, c, us, h1, h3, h4, h5⟩ := (hr.fin.mem.holds _ _ hl).rowAt
          obtain ⟨ad0, n0, c0, ho0, hxe⟩ := ev_ok hr hx
          rw [h1] at ho0; simp only [Option.some.injEq, Prod.mk.injEq] at ho0
          obtain ⟨rfl, rfl, rfl⟩ := ho0
          have hc : l.length ≤ c := by
            rcases h3.2 with ⟨_, q, _⟩ | ⟨_, _, _, _, _, _, q, _⟩ <;> omega
          split at h
          · rename_i i0 hlo hhi
            simp only [Option.some.injEq, Prod.mk.injEq, decide_eq_true_eq] at h
            obtain ⟨⟨g0, g1⟩, rfl⟩ := h
            rcases evInt_ok hr hlo with ⟨_, e⟩ | ⟨xo, kx, mm, rfl, e, hxv⟩
            · cases e
            injection e with e; subst e
            rcases evInt_ok hr hhi with ⟨rfl, _⟩ | ⟨_, _, _, _, e, _⟩
            rotate_left
            · cases e
            have r1 : (Instr.sliceBounds true l.length c ((some xo).map a.eval) (Option.map a.eval none) none).run P w = .ok (i0.toNat, l.length, c) w := by
              simp [Instr.sliceBounds, hxv, run_sliceBound' (P := P) (w := w) g0 (show i0 ≤ (l.length : Int) by omega)]
            have hne : l ≠ [] := fun e => by subst e; simp at g1
            rcases h3.2 with ⟨_, q, _⟩ | ⟨g, vs, fz, rfl, k2, k3, k4, k5, k6, k7, k8⟩
            · exact absurd (List.eq_nil_of_length_eq_zero q) hne
            · have hrun : (execOp a.eval ⟨some tt, .slice t x (some xo) none none, ty, pos, after, guard⟩).run P w = .ok (.value (.slice (some ⟨g, i0.toNat * τ.sz, none⟩) (l.length - i0.toNat) (c - i0.toNat))) w := by
                simp only [Option.map_some, Option.map_none] at r1
                simp [execOp, Instr.sliceAt, Instr.slice, run_underlying' hu, hxe, r1, run_sizeOf' hsz, show c ≠ i0.toNat by omega, add_plain]
              refine oDoes_of_wp (by simp) ?_
              unfold Oper.wp
              rw [hrun]
              exact hN _ _ _ (aval_rel (v := .osl k τ.sz i0.toNat) hr (by have hb2 : Nat.blt tt s.n = true := (by simpa using b2); simp only [St.add, hb2, cond_true, List.nil_append]) ⟨g, l.length, c, h1, g1, rfl⟩)
          · rename_i i0 hlo hhi
            simp only [Option.some.injEq, Prod.mk.injEq, decide_eq_true_eq] at h
            obtain ⟨⟨g0, g1⟩, rfl⟩ := h
            rcases evInt_ok hr hhi with ⟨_, e⟩ | ⟨xo, kx, mm, rfl, e, hxv⟩
            · cases e
            injection e with e; subst e
            rcases evInt_ok hr hlo with ⟨rfl, _⟩ | ⟨_, _, _, _, e, _⟩
            rotate_left
            · cases e
            have r1 : (Instr.sliceBounds true l.length c (Option.map a.eval none) ((some xo).map a.eval) none).run P w = .ok (0, i0.toNat, c) w := by
              simp [Instr.sliceBounds, hxv, run_sliceBound' (P := P) (w := w) g0 (show i0 ≤ (c : Int) by omega)]
            have hlt : (l.take i0.toNat).length = i0.toNat := by simp; omega
            have hrun : (execOp a.eval ⟨some tt, .slice t x none (some xo) none, ty, pos, after, guard⟩).run P w = .ok (.value (.slice ad i0.toNat c)) w := by
              simp only [Option.map_some, Option.map_none] at r1
              have had : (if c = 0 then ad else ad.map (·.add (0 * τ.sz))) = ad := by
                split
                · rfl
                · rcases h3.2 with ⟨rfl, _, _⟩ | ⟨g, vs, fz, rfl, _⟩
                  · rfl
                  · simp [add_plain]
              simp only [execOp, Instr.sliceAt, Option.map_some, Option.map_none]
              simp [Instr.slice, run_underlying' hu, hxe, r1, run_sizeOf' hsz]
              simpa using had
            refine oDoes_of_wp (by simp) ?_
            unfold Oper.wp
            rw [hrun]
            have hk' := noRange_look b3 (s.nx + 32 * tt) (Nat.le_refl _) (by omega)
            obtain ⟨f1, f2⟩ := hr.fresh _ (by omega) hk'
            have hrow : RowAt w E τ.sz ad (l.take i0.toNat).length c (us.take (i0.toNat * τ.sz)) := by
              rw [hlt]
              have hm : i0.toNat * τ.sz ≤ l.length * τ.sz := Nat.mul_le_mul_right _ (by omega)
              refine ⟨by rw [List.length_take, h3.1]; omega, ?_⟩
              rcases h3.2 with ⟨q1, q2, q3⟩ | ⟨g, vs, fz, q1, q2, q3, q4, q5, q6, q7, q8⟩
              · exact .inl ⟨q1, by omega, q3⟩
              · exact .inr ⟨g, vs, fz, q1, q2, q3, by omega, q5, q6, by rw [← q7, List.take_take, Nat.min_eq_left hm], q8⟩
            have hreps : Reps ((l.take i0.toNat).flatMap τ.enc) G.data (us.take (i0.toNat * τ.sz)) := by
              have := reps_take (i0.toNat * τ.sz) h4
              have e : (l.flatMap τ.enc).take (i0.toNat * τ.sz) = (l.take i0.toNat).flatMap τ.enc := by
                have e1 : l.flatMap τ.enc = (l.take i0.toNat).flatMap τ.enc ++ (l.drop i0.toNat).flatMap τ.enc := by rw [← List.flatMap_append, List.take_append_drop]
                rw [e1, List.take_append_of_le_length (by rw [flat_len, hlt]; exact Nat.le_refl _), List.take_of_length_le (by rw [flat_len, hlt]; exact Nat.le_refl _)]
              rwa [e] at this
            have hfin := hr.fin.take hl h1 hk' f2 h5 (w' := w) ⟨rfl, rfl, rfl, Nat.le_refl _, fun _ _ _ => rfl⟩ (.inl rfl) hrow hreps
            have hle : G.le (G.addOwn (s.nx + 32 * tt) (ad, (l.take i0.toNat).length, c)) := Gh.addOwn_le f2
            refine hN _ _ _ ⟨by obtain ⟨bs, q1, q2⟩ := hr.defers; exact ⟨bs, q1, defers_le hle.box q2⟩, by simp [Act.put, hr.size], fun i z hz => ?_, fun m hm hlm => ?_, hfin⟩
            · simp only [look] at hz
              cases hbq : Nat.beq tt i
              · rw [hbq] at hz; simp only [cond_false] at hz
                have hne : tt ≠ i := fun e => by subst e; simp at hbq
                obtain ⟨u, u1, u2⟩ := hr.frame i z hz
                exact ⟨u, by simp [Act.put, hne, u1], u2.le hle⟩
              · rw [hbq] at hz; simp only [cond_true, Option.some.injEq] at hz; subst hz
                have := Nat.eq_of_beq_eq_true hbq; subst this
                exact ⟨_, by simp [Act.put, hr.size, b2], ad, i0.toNat, c, by rw [Gh.addOwn_self, hlt], rfl⟩
            · simp only [look] at hlm
              cases hbq : Nat.beq (s.nx + 32 * tt) m
              · rw [hbq] at hlm; simp only [cond_false] at hlm
                cases hbk : Nat.beq k m
                · rw [hbk] at hlm
                  obtain ⟨g1, g2⟩ := hr.fresh m hm hlm
                  refine ⟨g1, ?_⟩
                  show (bif Nat.beq m (s.nx + 32 * tt) then some _ else G.own m) = none
                  cases hbm : Nat.beq m (s.nx + 32 * tt)
                  · exact g2
                  · have := Nat.eq_of_beq_eq_true hbm; subst this; simp at hbq
                · rw [hbk] at hlm; cases hlm
              · rw [hbq] at hlm; cases hlm
          · cases h
        · cases h
      · cases h
    · cases h
  · rename_i args ats
    split at h
    · rename_i x t ha hty
      split at h
      · rename_i k sz lo hx
        split at h
        · rename_i τ l E E' hl hu
          split at h
          · rename_i zs hzs
            split at h
            · rename_i z hdec
              cases hb : Nat.beq sz τ.sz && Nat.blt 0 τ.sz && AV.ones zs <;> rw [hb] at h <;> simp only [cond_true, cond_false, reduceCtorEq, Option.some.injEq, Prod.mk.injEq, true_and] at h
              subst h
              simp only [Bool.and_eq_true] at hb
              obtain ⟨⟨b1, b2⟩, b3⟩ := hb
              have b1 := Nat.eq_of_beq_eq_true b1
              have b2 : 0 < τ.sz := by simpa using b2
              subst b1
              have e1 : args = #[x] := by rw [← Array.toArray_toList (xs := args), ha]
              have e2 : ats = #[t] := by rw [← Array.toArray_toList (xs := ats), hty]
              subst e1 e2
              obtain ⟨g, n, c, o1, o2, hxe⟩ := ev_ok hr hx
              obtain ⟨ad, c', q1, q2⟩ := hr.fin.mem.holds _ _ hl
              rw [o1] at q1; simp only [Option.some.injEq, Prod.mk.injEq] at q1
              obtain ⟨rfl, rfl, rfl⟩ := q1
              rcases q2 with ⟨q, _⟩ | ⟨g', vs, fz, q, k2, k3, k4, k5, k6, k7, k8, k9⟩
              · cases q
              · simp only [Option.some.injEq, Addr.mk.injEq, and_true] at q
                subst q
                obtain ⟨pre, e, hsd⟩ := dec_seen hdec
                simp only [List.append_nil] at e; subst e
                obtain ⟨zv, hz1, hz2⟩ := run_zero' (P := P) hzs w G.data
                obtain ⟨ps, hv1, hv2⟩ := hsd.2
                have hz3 : Reps (τ.enc z) G.data zv.cells.toList := vws_ok (Gh.le.refl _) (fun e => by cases e) hv1 hv2 hz2
                have hone : ∀ v ∈ zv.cells.toList, v.oneCell' = true := reps_ones hz2 b3
                have hzl : zv.cells.toList.length = τ.sz := by rw [← hz3.length, τ.enc_length]
                have hzc := zeroCells_list zv.cells (l.length - lo)
                have hones : ∀ v ∈ (List.replicate (l.length - lo) zv.cells.toList).flatten, v.oneCell' = true := fun v hv => by
                  obtain ⟨ys, h1, h2⟩ := List.mem_flatten.1 hv
                  rw [List.eq_of_mem_replicate h1] at h2
                  exact hone v h2
                have hfrl : (List.replicate (l.length - lo) zv.cells.toList).flatten.length = (l.length - lo) * τ.sz := by rw [flat_rep_len, hzl]
                have hmul : lo * τ.sz + (l.length - lo) * τ.sz = l.length * τ.sz := by rw [← Nat.add_mul]; congr 1; omega
                have hcl : l.length * τ.sz ≤ c * τ.sz := Nat.mul_le_mul_right _ k4
                obtain ⟨w', cur', s1, s2, s3, s4⟩ := run_storeCells' (P := P) g (lo * τ.sz) E fz (List.replicate (l.length - lo) zv.cells.toList).flatten 0 vs w k2 (by rw [hfrl]; omega) k3 hones
                have hrun : (execOp a.eval ⟨none, .call { callee := .builtin .clear, args := #[x], argTypes := #[t] }, ty, pos, after, guard⟩).run P w = .ok (.value (.tuple #[])) w' := by
                  obtain ⟨m, hm⟩ : ∃ m, l.length - lo = m + 1 := ⟨l.length - lo - 1, by omega⟩
                  rw [hm] at s1 hzc
                  simp [execOp, resolve, invoke, builtin, hxe, hm, Builtin.clear_, run_underlying' hu, hz1, hzc, s1]
                refine oDoes_of_wp (by simp) ?_
                unfold Oper.wp
                rw [hrun]
                have hat : G.at k (.row τ l E) = some g := by simp [Gh.at, o1]
                have hl' : (l.take lo ++ List.replicate (l.length - lo) z).length = l.length := by simp; omega
                have hfl : (l.take lo ++ List.replicate (l.length - lo) z).flatMap τ.enc = splice (l.flatMap τ.enc) (lo * τ.sz) (List.replicate (l.length - lo) (τ.enc z)).flatten := by
                  have e1 : l.flatMap τ.enc = (l.take lo).flatMap τ.enc ++ (l.drop lo).flatMap τ.enc := by rw [← List.flatMap_append, List.take_append_drop]
                  have e2 : ((l.take lo).flatMap τ.enc).length = lo * τ.sz := by rw [flat_len, List.length_take, Nat.min_eq_left (by omega)]
                  have e3 : ((l.drop lo).flatMap τ.enc).length = (l.length - lo) * τ.sz := by rw [flat_len, List.length_drop]
                  rw [List.flatMap_append, flat_replicate, e1]
                  have := splice_right (List.replicate (l.length - lo) (τ.enc z)).flatten ((l.take lo).flatMap τ.enc) ((l.drop lo).flatMap τ.enc) 0
                  rw [e2, Nat.add_zero] at this
                  rw [this, splice_all _ _ (by rw [e3, flat_rep_len, τ.enc_length])]
                refine hN G _ _ ⟨hr.defers, hr.size, hr.frame, fun m hm hlm => hr.fresh m hm ?_, hr.fin.update (bx' := .row τ (l.take lo ++ List.replicate (l.length - lo) z) E) hl hat (by simp [Gh.at, o1]) s4 ?_ k9⟩
                · simp only [look] at hlm
                  cases hbq : Nat.beq k m
                  · rw [hbq] at hlm; exact hlm
                  · rw [hbq] at hlm; cases hlm
                · have hsz : cur'.size = vs.size := by
                    have := congrArg List.length s3
                    rw [vsplice_length] at this
                    simpa using this
                  refine ⟨some ⟨g, 0, none⟩, c, by rw [hl']; exact o1, .inr ⟨g, cur', fz, rfl, s2, by rw [hsz]; exact k3, by rw [hl']; exact k4, k5, by rw [hsz]; exact k6, ?_, ?_, k9⟩⟩
                  · rw [hl', hfl, s3, Nat.add_zero, vsplice_take_comm _ _ _ _ (by have : vs.toList.length = vs.size := Array.length_toList; omega)]
                    exact reps_vsplice _ k7 (reps_replicate hz3 _)
                  · intro u hu'
                    rw [s3] at hu'
                    rcases vsplice_mem _ _ _ _ hu' with hu' | hu'
                    · exact k8 u hu'
                    · exact hones u hu'
            · cases h
          · cases h
        · cases h
      · cases h
    · cases h
  · cases h
end
end Go.Sym
/- A conversion of bytes to bytes: the memory is marked, what it holds stays. -/
namespace Go.Sym
open Go.RowKit
variable [LC]

/-- operations on own memory that keep what it holds: what is tested, the state behind it -/
def fixOp (P : Program) (s : St) (o : Oper) : Option (Bool × St) :=
  match o.op, o.dst with
  | .convert src dst x, some tt => match s.ev x with
    | some (.own k) => match look s.hp k, P.underlying src, P.underlying dst with
      | some (.row τ l E), some (.slice _), some (.slice e) => match P.underlying e with
        | some (.int .u8) => bif Nat.beq src dst && Nat.blt tt s.n then some (decide (0 < l.length), { s with fr := (tt, .own k) :: s.fr, hp := (k, .row τ l E) :: s.hp }) else none
        | _ => none
      | _, _, _ => none
    | _ => none
  | _, _ => none
section
variable {P : Program} {w₀ : World} {G₀ : Gh} {hp₀ : List (Nat × Box)} {G : Gh} {s : St} {a : Act} {w : World}
theorem fixOp_ok (hr : Rel w₀ G₀ hp₀ G s a w) {o : Oper} {s' : St} (h : fixOp P s o = some (true, s')) {N : Act → World → Prop} (hN : ∀ G' a' w', Rel w₀ G₀ hp₀ G' s' a' w' → N a' w') : oDoes P o a w N := by
  obtain ⟨dst, op, ty, pos, after, guard⟩ := o
  unfold fixOp at h
  split at h
  · rename_i src dst x tt e1 e2
    simp only at e1 e2; subst e1 e2
    split at h
    · rename_i k hx
      split at h
      · rename_i τ l E E1 E2 hl hus hud
        split at h
        · rename_i hue
          cases hb : Nat.beq src dst && Nat.blt tt s.n <;> rw [hb] at h <;> simp only [cond_true, cond_false, reduceCtorEq, Option.some.injEq, Prod.mk.injEq, decide_eq_true_eq] at h
          obtain ⟨hpos, rfl⟩ := h
          simp only [Bool.and_eq_true] at hb
          have hsd := Nat.eq_of_beq_eq_true hb.1
          subst hsd
          rw [hus] at hud; cases hud
          obtain ⟨ad0, n0, c0, o1, hxe⟩ := ev_ok hr hx
          obtain ⟨ad, c', q1, q2⟩ := hr.fin.mem.holds _ _ hl
          rw [o1] at q1; simp only [Option.some.injEq, Prod.mk.injEq] at q1
          obtain ⟨rfl, rfl, rfl⟩ := q1
          rcases q2 with ⟨_, q, _⟩ | ⟨g, vs, fz, rfl, k2, k3, k4, k5, k6, k7, k8, k9⟩
          · subst q; simp at hpos
          · have hw : (w.freeze ⟨g, vs.size, none⟩ 1).heap[g]? = some (.cells vs E (if fz.1 == fz.2 then (vs.size, vs.size + 1) else (min fz.1 vs.size, max fz.2 (vs.size + 1)))) := by
              simp only [World.freeze, Nat.one_ne_zero, if_false, Array.getElem?_modify, k2]
              simp
            have hshape : w.shape? g = some (E, vs.size) := by simp only [World.shape?, k2]
            have hrun : (execOp a.eval ⟨some tt, .convert src src x, ty, pos, after, guard⟩).run P w = .ok (.value (.slice (some ⟨g, 0, none⟩) l.length c0)) (w.freeze ⟨g, vs.size, none⟩ 1) := by
              simp [execOp, hxe, convert, run_underlying' hus, run_underlying' hue, markStringish, hshape]
            refine oDoes_of_wp (by simp) ?_
            unfold Oper.wp
            rw [hrun]
            have hat : G.at k (.row τ l E) = some g := by simp [Gh.at, o1]
            have hbel : Bel (fun b => b = g) w (w.freeze ⟨g, vs.size, none⟩ 1) := by
              refine ⟨rfl, rfl, rfl, ?_, fun j hj hne => ?_⟩
              · simp [World.freeze]
              · simp only [World.freeze, Nat.one_ne_zero, if_false, Array.getElem?_modify]
                rw [if_neg (fun q => hne q.symm)]
            have hok : BoxOk G (w.freeze ⟨g, vs.size, none⟩ 1) k (.row τ l E) := by
              refine ⟨some ⟨g, 0, none⟩, c0, o1, .inr ⟨g, vs, _, rfl, hw, ?_, k4, k5, k6, k7, k8, k9⟩⟩
              refine .inr ?_
              split
              · exact Nat.le_refl _
              · rename_i hne
                rcases k3 with rfl | k3
                · simp at hne
                · simp only; omega
            have hfin := hr.fin.update (bx' := .row τ l E) hl hat hat hbel hok k9
            have hb2 : Nat.blt tt s.n = true := hb.2
            refine hN G _ _ ?_
            have hr2 : Rel w₀ G₀ hp₀ G { s with hp := (k, .row τ l E) :: s.hp } a (w.freeze ⟨g, vs.size, none⟩ 1) := ⟨hr.defers, hr.size, hr.frame, fun m hm hlm => hr.fresh m hm (by
              simp only [look] at hlm
              cases hbq : Nat.beq k m
              · rw [hbq] at hlm; exact hlm
              · rw [hbq] at hlm; cases hlm), hfin⟩
            exact aval_rel (v := .own k) hr2 (by simp only [St.add, hb2, cond_true, List.nil_append]) ⟨_, _, _, o1, rfl⟩
        · cases h
      · cases h
    · cases h
  · cases h
end
end Go.Sym
/- Calls of functions without a body, that answer at once and leave memory as it is. -/
namespace Go.Sym
open Go.RowKit
variable [LC]

def keyExt (f : FuncId) : Key → Bool
  | .ext f' => Nat.beq f' f
  | _ => false
/-- the entry of that name -/
def entOf (f : FuncId) : List Ent → Option Ent
  | [] => none
  | e :: es => bif keyExt f e.key then some e else entOf f es
def extOp {R : Type} (tb : Tb) (s : St) (o : Oper) (K : St → Option R) : Option (Option R) :=
  match o.op, o.dst with
  | .call { callee := .value g, args, argTypes := _ }, some tt => match s.ev g, s.evs args.toList with
    | some (.fn (.func f) [] []), some xs => match entOf f tb.ents with
      | some e => match Pts.get e.args (lends s.hp xs) [] with
        | some (d, nm) => match bget s.hp e.hp nm with
          | some (d', nm') => bif nilN nm' && Nat.blt tt s.n then
              some ((e.F d d').bind fun r => bif noRef (e.out.res r).1 then K { s with fr := (tt, (e.out.res r).1) :: s.fr } else none) else none
          | none => none
        | none => none
      | none => none
    | _, _ => none
  | _, _ => none
omit [LC] in
theorem entOf_mem {f : FuncId} : ∀ {es : List Ent} {e : Ent}, entOf f es = some e → e ∈ es ∧ e.key = .ext f
  | [], e, h => by cases h
  | e' :: es, e, h => by
    unfold entOf at h
    cases hb : keyExt f e'.key <;> rw [hb] at h <;> simp only [cond_true, cond_false, Option.some.injEq] at h
    · exact ⟨List.mem_cons_of_mem _ (entOf_mem h).1, (entOf_mem h).2⟩
    · subst h
      refine ⟨List.mem_cons_self, ?_⟩
      unfold keyExt at hb
      split at hb
      · rename_i f' hk; rw [hk, Nat.eq_of_beq_eq_true hb]
      · cases hb
section
variable {P : Program} {w₀ : World} {G₀ : Gh} {hp₀ : List (Nat × Box)} {G : Gh} {s : St} {a : Act} {w : World} {R : Type} {tb : Tb}
theorem extOp_ok (hT : ∀ e ∈ tb.ents, e.Sound P) (hr : Rel w₀ G₀ hp₀ G s a w) {o : Oper} {K : St → Option R} {r : Option R} {x : R} (h : extOp tb s o K = some r) (hx : r = some x) {N : Act → World → Prop} (hN : ∀ s', K s' = some x → ∀ G' a' w', Rel w₀ G₀ hp₀ G' s' a' w' → N a' w') : oDoes P o a w N := by
  obtain ⟨dst, op, ty, pos, after, guard⟩ := o
  unfold extOp at h
  split at h
  · rename_i g args ats tt e1 e2
    simp only at e1 e2; subst e1 e2
    split at h
    · rename_i f xs hg hargs
      split at h
      · rename_i e he
        split at h
        · rename_i d nm hget
          split at h
          · rename_i d' nm' hbg
            cases hb : nilN nm' && Nat.blt tt s.n <;> rw [hb] at h <;> simp only [cond_true, cond_false, reduceCtorEq, Option.some.injEq] at h
            simp only [Bool.and_eq_true] at hb
            have hn := nilN_eq hb.1
            subst hn
            rw [hx] at h
            obtain ⟨y, hy, h⟩ := Option.bind_eq_some_iff.1 h
            cases hnr : noRef (e.out.res y).1 <;> rw [hnr] at h <;> simp only [cond_true, cond_false, reduceCtorEq] at h
            obtain ⟨hmem, hkey⟩ := entOf_mem he
            have hs := hT e hmem d d' y hy
            rw [hkey] at hs
            have hs : ExtTo P f (Pts.put e.args d) (e.out.res y).1 := hs
            have hseen := (Pts.get_seen hget).2 [] rfl (fun n m hh => by have := (bget_seen hbg).1 n m hh; cases this)
            obtain ⟨ps, k1, k2⟩ := vws_lend (noIfs_put (ps := e.args) (d := d)) hseen
            obtain ⟨z1, z2, z3, z4⟩ := allData_spec hr.fin
            obtain ⟨fs, cs, hge, hfs, hcs⟩ := ev_ok hr hg
            have hfs0 : fs = #[] := Array.eq_empty_of_size_eq_zero (by have := hfs.length; simpa using this.symm)
            have hcs0 : cs = #[] := Array.eq_empty_of_size_eq_zero (by have := hcs.length; simpa using this.symm)
            subst hfs0 hcs0
            have hreps := vws_ok z1 (fun _ => z4) k1 k2 (evs_ok hr hargs)
            obtain ⟨v, hv1, hv2⟩ := hs w _ _ z2 hreps
            have hv3 : Rep (e.out.res y).1 G v := noRef_ok (G := G.allData s.hp w) (G' := G) (fun _ _ q => q) (fun _ _ q => q) hnr hv2
            have hrun : (execOp a.eval ⟨some tt, .call { callee := .value g, args := args, argTypes := ats }, ty, pos, after, guard⟩).run P w = .ok (.value v) w := by
              have e3 : (args.toList.map a.eval).toArray = args.map a.eval := by rw [← Array.toArray_toList (xs := args.map a.eval), Array.toList_map]
              try rw [e3] at hv1
              simp [execOp, resolve, hge, Deferred.ofValue, invoke, hv1]
            refine oDoes_of_wp (by simp) ?_
            unfold Oper.wp
            rw [hrun]
            have hb2 : Nat.blt tt s.n = true := hb.2
            exact hN _ h _ _ _ (aval_rel (v := (e.out.res y).1) hr (by simp only [St.add, hb2, cond_true, List.nil_append]) hv3)
          · cases h
        · cases h
      · cases h
    · cases h
  · cases h
end
end Go.Sym
/- Arrays of many elements of one cell: rows, read and written by index. -/
namespace Go.Sym
open Go.RowKit
variable [LC]

/-- the code of a basic type -/
def tyOf1 (P : Program) (t : TypeId) : Option Ty := match P.underlying t with
  | some (.int k) => match k with
    | .u8 => some .byte
    | k => some (.int k)
  | some .bool => some .bool
  | some .string => some .str
  | _ => none
def Ty.zero1 : (τ : Ty) → Option τ.den
  | .int _ => some (0 : Int)
  | .byte => some (0 : UInt8)
  | .bool => some false
  | .str => some ([] : List UInt8)
  | _ => none
def zeroIs : Ty → AV → Bool
  | .int k, x => match x with
    | .int k' n => decide (k' = k) && decide (n = 0)
    | _ => false
  | .byte, x => match x with
    | .byte c => decide (c = 0)
    | _ => false
  | .bool, x => match x with
    | .bool b => !b
    | _ => false
  | .str, x => match x with
    | .str s => s.isEmpty
    | _ => false
  | _, _ => false
def allZero (τ : Ty) : List AV → Bool
  | [] => true
  | x :: xs => zeroIs τ x && allZero τ xs
def Ty.is1 : Ty → Bool
  | .int _ => true
  | .byte => true
  | .bool => true
  | .str => true
  | _ => false
/-- a type of arrays that are rows -/
def bigArr (P : Program) (T : TypeId) : Bool := match P.underlying T with
  | some (.array n _) => Nat.blt 32 n
  | _ => false
/-- operations on arrays that are rows: what is tested, the state behind it -/
def arrOp (P : Program) (s : St) (o : Oper) : Option (Bool × St) :=
  match o.op, o.dst with
  | .alloc T, some t => match P.underlying T with
    | some (.array n E) => bif Nat.blt 32 n then
        match tyOf1 P E, tZero P T with
        | some τ, some zs => match τ.zero1 with
          | some z => bif Nat.beq zs.length n && allZero τ zs && Nat.ble n 65536 && AV.ones zs && noRange (s.nx + 32 * t) s.hp && Nat.blt t s.n then
              some (true, { s with fr := (t, .oel (s.nx + 32 * t) 1 0 0) :: s.fr, hp := (s.nx + 32 * t, .row τ (List.replicate n z) T) :: s.hp }) else none
          | none => none
        | _, _ => none
      else none
    | _ => none
  | .load T x, some t => bif bigArr P T then match s.ev x with
    | some (.oel k sz 0 0) => match look s.hp k, tAgg P T, tSize P T with
      | some (.row τ l _), some true, some n => bif τ.is1 && Nat.beq sz 1 && Nat.blt t s.n then some (decide (l.length = n), { s with fr := (t, .arr τ l) :: s.fr }) else none
      | _, _, _ => none
    | _ => none else none
  | .store T x y, none => bif bigArr P T then match s.ev x, s.ev y with
    | some (.oel k sz 0 0), some (.arr τ l) => match look s.hp k, tSize P T with
      | some (.row τ0 l0 E0), some n => bif τ.is1 && τ0.is1 && Nat.beq sz 1 then some (decide (l.length = l0.length) && decide (l.length = n), { s with hp := (k, .row τ l E0) :: s.hp }) else none
      | _, _ => none
    | _, _ => none else none
  | .indexAddr T x i, some t => bif bigArr P T then match P.underlying T with
    | some (.array n E) => match s.ev x, tSize P E with
      | some (.oel k sz 0 0), some 1 => bif Nat.beq sz 1 && Nat.blt t s.n then
          match s.evy i with
          | some (.int _ j) => some (decide (0 ≤ j) && decide (j < n), { s with fr := (t, .oel k 1 j.toNat 0) :: s.fr })
          | some (.byte c) => some (Nat.ble 256 n || decide (c.toNat < n), { s with fr := (t, .oel k 1 c.toNat 0) :: s.fr })
          | _ => none
        else none
      | _, _ => none
    | _ => none else none
  | _, _ => none
omit [LC] in
theorem is1_sz {τ : Ty} (h : τ.is1 = true) : τ.sz = 1 := by cases τ <;> first | rfl | cases h
omit [LC] in
theorem zero1_is1 {τ : Ty} {z : τ.den} (h : τ.zero1 = some z) : τ.is1 = true := by cases τ <;> first | rfl | cases h
omit [LC] in
theorem zeroIs_ok {τ : Ty} {x : AV} {z : τ.den} {G : Gh} {v : Value} (h : zeroIs τ x = true) (hz : τ.zero1 = some z) (hr : Rep x G v) : Reps (τ.enc z) G [v] := by
  cases τ with
  | int k =>
    cases x <;> simp only [zeroIs, Bool.false_eq_true, Bool.and_eq_true, decide_eq_true_eq] at h
    obtain ⟨rfl, rfl⟩ := h
    cases hz; exact ⟨hr, trivial⟩
  | byte =>
    cases x <;> simp only [zeroIs, Bool.false_eq_true, decide_eq_true_eq] at h
    subst h
    cases hz; exact ⟨hr, trivial⟩
  | bool =>
    cases x with
    | bool b =>
      cases b
      · cases hz; exact ⟨hr, trivial⟩
      · cases h
    | _ => cases h
  | str =>
    cases x with
    | str l =>
      cases l
      · cases hz; exact ⟨hr, trivial⟩
      · cases h
    | _ => cases h
  | _ => cases hz
omit [LC] in
theorem allZero_ok {τ : Ty} {z : τ.den} {G : Gh} (hz : τ.zero1 = some z) : ∀ {zs : List AV} {vs : List Value}, allZero τ zs = true → Reps zs G vs → Reps ((List.replicate zs.length z).flatMap τ.enc) G vs
  | [], [], _, _ => trivial
  | x :: zs, v :: vs, h, hr => by
    simp only [allZero, Bool.and_eq_true] at h
    rw [List.length_cons, List.replicate_succ, List.flatMap_cons]
    exact reps_append (vs := [v]) (zeroIs_ok h.1 hz hr.1) (allZero_ok hz h.2 hr.2)
  | [], _ :: _, _, h => h.elim
  | _ :: _, [], _, h => h.elim
omit [LC] in
theorem enc1 {τ : Ty} (h : τ.is1 = true) (x : τ.den) : τ.enc x = [τ.av x] := by cases τ <;> first | rfl | cases h
omit [LC] in
theorem av_V1 {τ : Ty} (h : τ.is1 = true) {x : τ.den} {G : Gh} {v : Value} : Rep (τ.av x) G v ↔ τ.V1 G.imm x v := by cases τ <;> first | exact Iff.rfl | cases h
omit [LC] in
theorem flat1 {τ : Ty} (h : τ.is1 = true) : ∀ (l : List τ.den), l.flatMap τ.enc = l.map τ.av
  | [] => rfl
  | x :: l => by rw [List.flatMap_cons, enc1 h, flat1 h l]; rfl
omit [LC] in
/-- an array's value as cells -/
theorem arr_reps {τ : Ty} (h : τ.is1 = true) {l : List τ.den} {G : Gh} {v : Value} (hv : Rep (.arr τ l) G v) : ∃ vs : Array Value, v = .agg vs ∧ Reps (l.flatMap τ.enc) G.data vs.toList := by
  obtain ⟨vs, rfl, h1, h2⟩ := hv
  refine ⟨vs, rfl, ?_⟩
  rw [flat1 h]
  have : ∀ (l : List τ.den) (us : List Value), us.length = l.length → (∀ (j : Nat) (x : τ.den), l[j]? = some x → ∃ u, us[j]? = some u ∧ τ.V1 G.imm x u) → Reps (l.map τ.av) G.data us := by
    intro l
    induction l with
    | nil => intro us hl _; rw [List.eq_nil_of_length_eq_zero hl]; trivial
    | cons x l ih =>
      intro us hl hu
      cases us with
      | nil => cases hl
      | cons u us =>
        refine ⟨?_, ih us (by simpa using hl) (fun j y hy => hu (j + 1) y (by simpa using hy))⟩
        obtain ⟨u', e, k⟩ := hu 0 x rfl
        simp only [List.getElem?_cons_zero, Option.some.injEq] at e; subst e
        exact (av_V1 h (G := G.data)).2 k
  exact this l vs.toList (by simpa using h1) (fun j x hx => by obtain ⟨u, k1, k2⟩ := h2 j x hx; exact ⟨u, by simpa using k1, k2⟩)
omit [LC] in
theorem reps_arr {τ : Ty} (h : τ.is1 = true) {l : List τ.den} {G : Gh} {vs : List Value} (hv : Reps (l.flatMap τ.enc) G.data vs) : Rep (.arr τ l) G (.agg vs.toArray) := by
  rw [flat1 h] at hv
  refine ⟨vs.toArray, rfl, by simpa using hv.length.symm, fun j x hx => ?_⟩
  obtain ⟨u, k1, k2⟩ := reps_get hv (i := j) (x := τ.av x) (by simp [hx])
  exact ⟨u, by simpa using k1, (av_V1 h (G := G.data)).1 k2⟩
section
variable {P : Program} {w₀ : World} {G₀ : Gh} {hp₀ : List (Nat × Box)} {G : Gh} {s : St} {a : Act} {w : World}
theorem arrOp_ok (hr : Rel w₀ G₀ hp₀ G s a w) {o : Oper} {s' : St} (h : arrOp P s o = some (true, s')) {N : Act → World → Prop} (hN : ∀ G' a' w', Rel w₀ G₀ hp₀ G' s' a' w' → N a' w') : oDoes P o a w N := by
  obtain ⟨dst, op, ty, pos, after, guard⟩ := o
  unfold arrOp at h
  split at h
  · rename_i T t e1 e2
    simp only at e1 e2; subst e1 e2
    split at h
    · rename_i n E hu
      cases hn : Nat.blt 32 n <;> rw [hn] at h <;> simp only [cond_true, cond_false, reduceCtorEq] at h
      split at h
      · rename_i τ zs hτ hzs
        split at h
        · rename_i z hz
          cases hb : Nat.beq zs.length n && allZero τ zs && Nat.ble n 65536 && AV.ones zs && noRange (s.nx + 32 * t) s.hp && Nat.blt t s.n <;> rw [hb] at h <;> simp only [cond_true, cond_false, reduceCtorEq, Option.some.injEq, Prod.mk.injEq, true_and] at h
          subst h
          simp only [Bool.and_eq_true] at hb
          obtain ⟨⟨⟨⟨⟨b1, b2⟩, b3⟩, b4⟩, b5⟩, b6⟩ := hb
          have b1 := Nat.eq_of_beq_eq_true b1
          have b3 : n ≤ 65536 := Nat.le_of_ble_eq_true b3
          have hsz : τ.sz = 1 := is1_sz (zero1_is1 hz)
          obtain ⟨Z, hz1, hz2⟩ := run_zero' (P := P) hzs w G.data
          have hlen : Z.cells.toList.length = n := by rw [← hz2.length, b1]
          have hreps := allZero_ok hz b2 hz2
          rw [b1] at hreps
          have hone := reps_ones hz2 b4
          have hrun : (execOp a.eval ⟨some t, .alloc T, ty, pos, after, guard⟩).run P w = .ok (.value (.pointer (some ⟨w.heap.size, 0, none⟩))) (w.alloc (.cells Z.cells T)) := by
            simp [execOp, Instr.alloc, hz1, newVar, newRow]
          refine oDoes_of_wp (by simp) ?_
          unfold Oper.wp
          rw [hrun]
          have hrow : RowAt (w.alloc (.cells Z.cells T)) T τ.sz (some ⟨w.heap.size, 0, none⟩) (List.replicate n z).length n Z.cells.toList := by
            refine ⟨by rw [hsz, hlen]; simp, .inr ⟨w.heap.size, Z.cells, (0, 0), rfl, heap_alloc_top _ _, .inl rfl, by simp, ?_, ?_, ?_, hone⟩⟩
            · exact Nat.le_trans b3 (by decide)
            · rw [hsz, ← hlen]; simp
            · rw [List.take_of_length_le]; rw [hsz, hlen]; simp
          obtain ⟨G', hG⟩ := row_relV (t := t) (v := .oel (s.nx + 32 * t) 1 0 0) (u := .pointer (some ⟨w.heap.size, 0, none⟩)) (s' := { s with fr := (t, .oel (s.nx + 32 * t) 1 0 0) :: s.fr, hp := (s.nx + 32 * t, .row τ (List.replicate n z) T) :: s.hp }) hr b5 (still_alloc _ _) hrow hreps
            (fun b hb => by injection hb with hb; subst hb; exact Nat.le_refl _) (fun G' hG' => ⟨w.heap.size, _, n, hG', by simp⟩)
            (by have hb2 : Nat.blt t s.n = true := b6; simp only [St.add, hb2, cond_true]; rfl)
          exact hN _ _ _ hG
        · cases h
      · cases h
    · cases h
  · rename_i T x t e1 e2
    simp only at e1 e2; subst e1 e2
    cases hbig : bigArr P T <;> rw [hbig] at h <;> simp only [cond_true, cond_false, reduceCtorEq] at h
    split at h
    · rename_i k sz hx
      split at h
      · rename_i τ l E n hl hagg hn
        cases hb : τ.is1 && Nat.beq sz 1 && Nat.blt t s.n <;> rw [hb] at h <;> simp only [cond_true, cond_false, reduceCtorEq, Option.some.injEq, Prod.mk.injEq, decide_eq_true_eq] at h
        obtain ⟨hlen, rfl⟩ := h
        simp only [Bool.and_eq_true] at hb
        obtain ⟨⟨b1, b2⟩, b3⟩ := hb
        have hsz : τ.sz = 1 := is1_sz b1
        obtain ⟨B, n0, c0, ho, hxe⟩ := ev_ok hr hx
        obtain ⟨ad, c', h1, h3⟩ := hr.fin.mem.holds _ _ hl
        rw [ho] at h1; simp only [Option.some.injEq, Prod.mk.injEq] at h1
        obtain ⟨rfl, rfl, rfl⟩ := h1
        rcases h3 with ⟨h3, _⟩ | ⟨g, vs, fz, k1, k2, k3, k4, k5, k6, k7, k8, k9⟩
        · cases h3
        · simp only [Option.some.injEq, Addr.mk.injEq, and_true] at k1
          subst k1
          have hfl : (l.flatMap τ.enc).length = n := by rw [flat_len, hsz, hlen, Nat.mul_one]
          have hload : aload P T (l.flatMap τ.enc) 0 = some (.agg (l.flatMap τ.enc)) := by
            unfold aload
            rw [hagg, hn]
            have : Nat.ble (0 + n) (l.flatMap τ.enc).length = true := by rw [hfl, Nat.zero_add]; simp
            simp only [this, cond_true, List.drop_zero]
            rw [List.take_of_length_le (by rw [hfl]; exact Nat.le_refl _)]
          obtain ⟨u, hu, us, rfl, hru⟩ := run_loadVar' (P := P) (w := w) hload (B := B) (o := 0) k7 (fun j u hu => by
            rw [List.getElem?_take] at hu
            split at hu
            · rw [Nat.zero_add]; exact cell_of_heap k2 hu
            · cases hu)
          have hrun : (execOp a.eval ⟨some t, .load T x, ty, pos, after, guard⟩).run P w = .ok (.value (.agg us)) w := by
            simp only [Nat.add_zero] at hu
            simp [execOp, hxe, Instr.loadAt, Instr.sureAddr, hu]
          refine oDoes_of_wp (by simp) ?_
          unfold Oper.wp
          rw [hrun]
          have hb2 : Nat.blt t s.n = true := b3
          have := reps_arr (G := G) b1 hru
          exact hN _ _ _ (aval_rel (v := .arr τ l) hr (by simp only [St.add, hb2, cond_true, List.nil_append]) (by simpa using this))
      · cases h
    · cases h
  · rename_i T x y e1 e2
    simp only at e1 e2; subst e1 e2
    cases hbig : bigArr P T <;> rw [hbig] at h <;> simp only [cond_true, cond_false, reduceCtorEq] at h
    split at h
    · rename_i k sz τ l hx hy
      split at h
      · rename_i τ0 l0 E0 n hl hn
        cases hb : τ.is1 && τ0.is1 && Nat.beq sz 1 <;> rw [hb] at h <;> simp only [cond_true, cond_false, reduceCtorEq, Option.some.injEq, Prod.mk.injEq, Bool.and_eq_true, decide_eq_true_eq] at h
        obtain ⟨⟨hlen, hlen2⟩, rfl⟩ := h
        simp only [Bool.and_eq_true] at hb
        obtain ⟨⟨b1, b2⟩, b3⟩ := hb
        have hsz : τ.sz = 1 := is1_sz b1
        have hsz0 : τ0.sz = 1 := is1_sz b2
        obtain ⟨B, n0, c0, ho0, hxe⟩ := ev_ok hr hx
        obtain ⟨us, hye, hus⟩ := arr_reps b1 (ev_ok hr hy)
        obtain ⟨ad, c, h1, h3⟩ := hr.fin.mem.holds _ _ hl
        rw [ho0] at h1; simp only [Option.some.injEq, Prod.mk.injEq] at h1
        obtain ⟨rfl, rfl, rfl⟩ := h1
        rcases h3 with ⟨h3, _⟩ | ⟨g, vs, fz, k1, k2, k3, k4, k5, k6, k7, k8, k9⟩
        · cases h3
        · simp only [Option.some.injEq, Addr.mk.injEq, and_true] at k1
          subst k1
          have hul : us.toList.length = n := by rw [← hus.length, flat_len, hsz, hlen2, Nat.mul_one]
          have hones : ∀ v ∈ us.toList, v.oneCell' = true := reps_ones hus (by
            rw [flat1 b1]
            have : ∀ l : List τ.den, AV.ones (l.map τ.av) = true := by
              intro l
              induction l with
              | nil => rfl
              | cons x l ih =>
                simp only [List.map_cons, AV.ones, ih, Bool.and_true]
                cases τ <;> first | rfl | cases b1
            exact this l)
          have hle : l0.length ≤ vs.size := by rw [k6, hsz0, Nat.mul_one]; exact k4
          obtain ⟨w', cur', m1, m2, m3, m4⟩ := run_storeCells' (P := P) B 0 E0 fz us.toList 0 vs w k2 (by omega) k3 hones
          have hrun : (execOp a.eval ⟨none, .store T x y, ty, pos, after, guard⟩).run P w = .ok .skip w' := by
            have hul' : us.size = n := by simpa using hul
            simp [execOp, Instr.storeAt, hxe, hye, Instr.sureAddr, storeVar, run_sizeOf' hn, Value.cells, hul', m1]
          refine oDoes_of_wp (by simp) ?_
          unfold Oper.wp
          rw [hrun]
          have hcs : cur'.size = vs.size := by rw [← Array.length_toList, m3, vsplice_length, Array.length_toList]
          refine hN G _ _ ⟨hr.defers, hr.size, hr.frame, fun m hm hlm => hr.fresh m hm ?_, ?_⟩
          · simp only [look] at hlm
            cases hbq : Nat.beq k m
            · rw [hbq] at hlm; exact hlm
            · rw [hbq] at hlm; cases hlm
          · refine hr.fin.update (bx' := .row τ l E0) hl (B := B) (by simp [Gh.at, ho0]) (by simp [Gh.at, ho0]) m4 ⟨some ⟨B, 0, none⟩, c0, by rw [hlen]; exact ho0, .inr ⟨B, cur', fz, rfl, m2, by rw [hcs]; exact k3, by rw [hlen]; exact k4, k5, by rw [hcs, hsz, ← hsz0]; exact k6, ?_, ?_, k9⟩⟩ k9
            · rw [m3, hsz, Nat.mul_one, Nat.add_zero]
              have := vsplice_take us.toList vs.toList 0 (by simp only [Array.length_toList] at hul ⊢; omega)
              rw [Nat.zero_add, List.take_zero, List.nil_append] at this
              rw [hlen2, ← hul, this]; exact hus
            · intro u hu
              rw [m3] at hu
              rcases vsplice_mem _ _ _ _ hu with hu | hu
              · exact k8 u hu
              · exact hones u hu
      · cases h
    · cases h
  · rename_i T x i t e1 e2
    simp only at e1 e2; subst e1 e2
    cases hbig : bigArr P T <;> rw [hbig] at h <;> simp only [cond_true, cond_false, reduceCtorEq] at h
    split at h
    · rename_i n E hu
      split at h
      · rename_i k sz hx hsz
        cases hb : Nat.beq sz 1 && Nat.blt t s.n <;> rw [hb] at h <;> simp only [cond_true, cond_false, reduceCtorEq] at h
        simp only [Bool.and_eq_true] at hb
        have b1 := Nat.eq_of_beq_eq_true hb.1
        subst b1
        obtain ⟨B, n0, c0, ho, hxe⟩ := ev_ok hr hx
        have hb2 : Nat.blt t s.n = true := hb.2
        have key : ∀ (j : Nat) (kk : IntKind), a.eval i = .int kk (j : Int) → j < n → s' = { s with fr := (t, .oel k 1 j 0) :: s.fr } → oDoes P ⟨some t, .indexAddr T x i, ty, pos, after, guard⟩ a w N := by
          intro j kk hi hj hs'
          have hrun : (execOp a.eval ⟨some t, .indexAddr T x i, ty, pos, after, guard⟩).run P w = .ok (.value (.pointer (some ⟨B, j, none⟩))) w := by
            simp [execOp, hxe, hi, Instr.indexAt, asIntOf, run_underlying' hu, run_sizeOf' hsz, add_plain, Instr.sureAddr, hj]
          refine oDoes_of_wp (by simp) ?_
          unfold Oper.wp
          rw [hrun]
          subst hs'
          exact hN _ _ _ (aval_rel (v := .oel k 1 j 0) hr (by simp only [St.add, hb2, cond_true, List.nil_append]) ⟨B, n0, c0, ho, by simp⟩)
        split at h
        · rename_i kk j hi
          simp only [Option.some.injEq, Prod.mk.injEq, Bool.and_eq_true, decide_eq_true_eq] at h
          obtain ⟨⟨h1, h2⟩, h3⟩ := h
          have hie : a.eval i = .int kk j := evy_ok hr hi
          exact key j.toNat kk (by rw [Int.toNat_of_nonneg h1]; exact hie) (by omega) h3.symm
        · rename_i c hi
          simp only [Option.some.injEq, Prod.mk.injEq, Bool.or_eq_true, decide_eq_true_eq] at h
          obtain ⟨h1, h3⟩ := h
          have hie : a.eval i = .int .u8 c.toNat := evy_ok hr hi
          have hlt : c.toNat < n := by
            rcases h1 with h1 | h1
            · have := Nat.le_of_ble_eq_true h1; have := c.toNat_lt; omega
            · exact h1
          exact key c.toNat .u8 hie hlt h3.symm
        · cases h
      · cases h
    · cases h
  · cases h
end
end Go.Sym
/- Interfaces that are made, and tests for nil of own slices. -/
namespace Go.Sym
open Go.RowKit
variable [LC]

def notIfc : TypeDesc → Bool
  | .interface _ => false
  | _ => true
def nilOp (P : Program) (s : St) (o : Oper) : Option (Bool × St) :=
  match o.op, o.dst with
  | .makeInterface T x, some tt => match s.ev x, P.underlying T with
    | some v, some d => bif notIfc d && Nat.blt tt s.n then some (true, { s with fr := (tt, .iface T v) :: s.fr }) else none
    | _, _ => none
  | .build T parts, some tt => bif bigArr P T then match parts.toList with
    | [] => match P.underlying T with
      | some (.array n E) => match tyOf1 P E, aBuild P s T [] with
        | some τ, some ([], .agg zs) => match τ.zero1 with
          | some z => bif Nat.beq zs.length n && allZero τ zs && Nat.blt tt s.n then some (true, { s with fr := (tt, .arr τ (List.replicate n z)) :: s.fr }) else none
          | none => none
        | _, _ => none
      | _ => none
    | _ => none else none
  | .binOp op t x y _, some tt => match s.ev y, P.underlying t with
    | some (.val (.slice none 0 0)), some (.slice _) => bif Nat.blt tt s.n then (match s.ev x, op with
      | some (.own k), .eql => match look s.hp k with
        | some (.row _ l _) => some (decide (0 < l.length), { s with fr := (tt, .val (.bool false)) :: s.fr })
        | _ => none
      | some (.own k), .neq => match look s.hp k with
        | some (.row _ l _) => some (decide (0 < l.length), { s with fr := (tt, .val (.bool true)) :: s.fr })
        | _ => none
      | some (.val (.slice none 0 0)), .eql => some (true, { s with fr := (tt, .val (.bool true)) :: s.fr })
      | some (.val (.slice none 0 0)), .neq => some (true, { s with fr := (tt, .val (.bool false)) :: s.fr })
      | _, _ => none) else none
    | _, _ => none
  | _, _ => none
omit [LC] in
theorem zeroIs_any {τ : Ty} {x : AV} {z : τ.den} {G G' : Gh} {v : Value} (h : zeroIs τ x = true) (hz : τ.zero1 = some z) (hr : Rep x G v) : Reps (τ.enc z) G' [v] := by
  cases τ with
  | int k =>
    cases x <;> simp only [zeroIs, Bool.false_eq_true, Bool.and_eq_true, decide_eq_true_eq] at h
    obtain ⟨rfl, rfl⟩ := h
    cases hz; exact ⟨hr, trivial⟩
  | byte =>
    cases x <;> simp only [zeroIs, Bool.false_eq_true, decide_eq_true_eq] at h
    subst h
    cases hz; exact ⟨hr, trivial⟩
  | bool =>
    cases x with
    | bool b =>
      cases b
      · cases hz; exact ⟨hr, trivial⟩
      · cases h
    | _ => cases h
  | str =>
    cases x with
    | str l =>
      cases l
      · cases hz; exact ⟨hr, trivial⟩
      · cases h
    | _ => cases h
  | _ => cases hz
omit [LC] in
theorem allZero_any {τ : Ty} {z : τ.den} {G G' : Gh} (hz : τ.zero1 = some z) : ∀ {zs : List AV} {vs : List Value}, allZero τ zs = true → Reps zs G vs → Reps ((List.replicate zs.length z).flatMap τ.enc) G' vs
  | [], [], _, _ => trivial
  | x :: zs, v :: vs, h, hr => by
    simp only [allZero, Bool.and_eq_true] at h
    rw [List.length_cons, List.replicate_succ, List.flatMap_cons]
    exact reps_append (vs := [v]) (zeroIs_any h.1 hz hr.1) (allZero_any hz h.2 hr.2)
  | [], _ :: _, _, h => h.elim
  | _ :: _, [], _, h => h.elim
section
variable {P : Program} {w₀ : World} {G₀ : Gh} {hp₀ : List (Nat × Box)} {G : Gh} {s : St} {a : Act} {w : World}
omit [LC] in
theorem run_eqNilIn {P : Program} {t E : TypeId} (hu : P.underlying t = some (.slice E)) (d : Nat) (x : Option Addr) (n c : Nat) (w : World) (h : x = none → n = 0 ∧ c = 0) :
    (Op.equalIn (d + 1) t (.slice x n c) (.slice none 0 0)).run P w = .ok x.isNone w := by
  cases x with
  | none => obtain ⟨rfl, rfl⟩ := h rfl; simp [Op.equalIn, run_underlying' hu]
  | some a => simp [Op.equalIn, run_underlying' hu]
omit [LC] in
theorem run_eqNil {P : Program} {t E : TypeId} (hu : P.underlying t = some (.slice E)) (x : Option Addr) (n c : Nat) (w : World) (h : x = none → n = 0 ∧ c = 0) :
    (Op.equal t (.slice x n c) (.slice none 0 0)).run P w = .ok x.isNone w := run_eqNilIn hu 9999 x n c w h
theorem nilOp_ok (hr : Rel w₀ G₀ hp₀ G s a w) {o : Oper} {s' : St} (h : nilOp P s o = some (true, s')) {N : Act → World → Prop} (hN : ∀ G' a' w', Rel w₀ G₀ hp₀ G' s' a' w' → N a' w') : oDoes P o a w N := by
  obtain ⟨dst, op, ty, pos, after, guard⟩ := o
  unfold nilOp at h
  split at h
  · rename_i T x tt e1 e2
    simp only at e1 e2; subst e1 e2
    split at h
    · rename_i v d hx hu
      cases hb : notIfc d && Nat.blt tt s.n <;> rw [hb] at h <;> simp only [cond_true, cond_false, reduceCtorEq, Option.some.injEq, Prod.mk.injEq, true_and] at h
      subst h
      simp only [Bool.and_eq_true] at hb
      refine oDoes_of_wp (by simp) ?_
      unfold Oper.wp
      have hrun : (execOp a.eval ⟨some tt, .makeInterface T x, ty, pos, after, guard⟩).run P w = .ok (.value (.iface T (a.eval x))) w := by
        have h1 := hb.1
        cases d <;> simp only [notIfc, Bool.false_eq_true] at h1 <;> simp [execOp, Instr.makeInterface, run_underlying' hu]
      rw [hrun]
      exact hN G _ _ (aval_rel (v := .iface T v) hr (by simp only [St.add, hb.2, cond_true, List.nil_append]) ⟨_, rfl, ev_ok hr hx⟩)
    · cases h
  · rename_i T parts tt e1 e2
    simp only at e1 e2; subst e1 e2
    cases hbig : bigArr P T <;> rw [hbig] at h <;> simp only [cond_true, cond_false, reduceCtorEq] at h
    split at h
    · rename_i hp
      split at h
      · rename_i n E hu
        split at h
        · rename_i τ zs hτ hbu
          split at h
          · rename_i z hz
            cases hb : Nat.beq zs.length n && allZero τ zs && Nat.blt tt s.n <;> rw [hb] at h <;> simp only [cond_true, cond_false, reduceCtorEq, Option.some.injEq, Prod.mk.injEq, true_and] at h
            subst h
            simp only [Bool.and_eq_true] at hb
            have b1 := Nat.eq_of_beq_eq_true hb.1.1
            rw [← hp] at hbu
            obtain ⟨u, hu1, us, rfl, hu3⟩ := aBuild_ok hr hbu
            refine oDoes_of_wp (by simp) ?_
            unfold Oper.wp
            have hrun : (execOp a.eval ⟨some tt, .build T parts, ty, pos, after, guard⟩).run P w = .ok (.value (.agg us)) w := by
              simp only [execOp, Sem.run_bind, hu1, Result.andThen_ok]; rfl
            rw [hrun]
            have hrep := allZero_any (G' := G.data) hz hb.1.2 hu3
            rw [b1] at hrep
            have := reps_arr (zero1_is1 hz) (G := G) hrep
            exact hN G _ _ (aval_rel (v := .arr τ (List.replicate n z)) hr (by simp only [St.add, hb.2, cond_true, List.nil_append]) this)
          · cases h
        · cases h
      · cases h
    · cases h
  · rename_i op t x y p tt e1 e2
    simp only at e1 e2; subst e1 e2
    split at h
    · rename_i E hy hu
      cases hb : Nat.blt tt s.n <;> rw [hb] at h <;> simp only [cond_true, cond_false, reduceCtorEq] at h
      have hye : a.eval y = .slice none 0 0 := ev_ok hr hy
      have go : ∀ (op : BinOp) (q : Bool) (ad : Option Addr) (n c : Nat), a.eval x = .slice ad n c → (ad = none → n = 0 ∧ c = 0) → (op = .eql ∧ q = ad.isNone ∨ op = .neq ∧ q = !ad.isNone) →
          s' = { s with fr := (tt, .val (.bool q)) :: s.fr } → oDoes P ⟨some tt, .binOp op t x y p, ty, pos, after, guard⟩ a w N := by
        intro op q ad n c hxe hnil hq hs'
        subst hs'
        refine oDoes_of_wp (by simp) ?_
        unfold Oper.wp
        have hq' := run_eqNil (P := P) hu ad n c w hnil
        have hrun : (execOp a.eval ⟨some tt, .binOp op t x y p, ty, pos, after, guard⟩).run P w = .ok (.value (.bool q)) w := by
          rcases hq with ⟨rfl, rfl⟩ | ⟨rfl, rfl⟩ <;> simp [execOp, hxe, hye, eqGuard, binOp, hq']
        rw [hrun]
        exact hN G _ _ (aval_rel (v := .val (.bool q)) hr (by simp only [St.add, hb, cond_true, List.nil_append]) rfl)
      have owned : ∀ {k : Nat} {τ : Ty} {l : List τ.den} {E : TypeId}, s.ev x = some (.own k) → look s.hp k = some (.row τ l E) → 0 < l.length → ∃ ad n c, a.eval x = .slice (some ad) n c := by
        intro k τ l E hx hl hpos
        obtain ⟨ad0, n0, c0, o1, hxe⟩ := ev_ok hr hx
        obtain ⟨ad, c', q1, q2⟩ := hr.fin.mem.holds _ _ hl
        rw [o1] at q1; simp only [Option.some.injEq, Prod.mk.injEq] at q1
        obtain ⟨rfl, rfl, rfl⟩ := q1
        rcases q2 with ⟨_, q, _⟩ | ⟨g, vs, fz, rfl, _⟩
        · subst q; simp at hpos
        · exact ⟨_, _, _, hxe⟩
      split at h
      · rename_i k hx
        split at h
        · rename_i hl
          simp only [Option.some.injEq, Prod.mk.injEq, decide_eq_true_eq] at h
          obtain ⟨ad, n, c, he⟩ := owned hx hl h.1
          exact go _ false _ _ _ he (fun q => by cases q) (.inl ⟨rfl, rfl⟩) h.2.symm
        · cases h
      · rename_i k hx
        split at h
        · rename_i hl
          simp only [Option.some.injEq, Prod.mk.injEq, decide_eq_true_eq] at h
          obtain ⟨ad, n, c, he⟩ := owned hx hl h.1
          exact go _ true _ _ _ he (fun q => by cases q) (.inr ⟨rfl, rfl⟩) h.2.symm
        · cases h
      · rename_i hx
        simp only [Option.some.injEq, Prod.mk.injEq, true_and] at h
        exact go _ true _ _ _ (ev_ok hr hx) (fun _ => ⟨rfl, rfl⟩) (.inl ⟨rfl, rfl⟩) h.symm
      · rename_i hx
        simp only [Option.some.injEq, Prod.mk.injEq, true_and] at h
        exact go _ false _ _ _ (ev_ok hr hx) (fun _ => ⟨rfl, rfl⟩) (.inr ⟨rfl, rfl⟩) h.symm
      · cases h
    · cases h
  · cases h
end
end Go.Sym
/- Ranges over strings. -/
namespace Go.Sym
open Go.RowKit
variable [LC]

/-- the character at a place of a string, and its width -/
def rdec (s : List UInt8) (p : Nat) : Nat × Nat := Utf8.decode ⟨s.toArray⟩ p
def itOp {R : Type} (P : Program) (s : St) (o : Oper) (K : St → Option R) : Option (Option R) :=
  match o.op, o.dst with
  | .range T x, some t => match P.underlying T, s.ev x with
    | some .string, some (.str l) => bif noRange (s.nx + 32 * t) s.hp && Nat.blt t s.n then
        some (K { s with fr := (t, .ptr (s.nx + 32 * t) 0) :: s.fr, hp := (s.nx + 32 * t, .it l 0) :: s.hp }) else none
    | _, _ => none
  | .next x true, some t => match s.ev x with
    | some (.ptr b 0) => match look s.hp b with
      | some (.it l p) => bif Nat.blt t s.n then
          some (bif Nat.blt p l.length then K { s with fr := (t, .tup [.val (.bool true), .int .i64 p, .int .i32 (rdec l p).1]) :: s.fr, hp := (b, .it l (p + (rdec l p).2)) :: s.hp }
            else K { s with fr := (t, .tup [.val (.bool false)]) :: s.fr }) else none
      | _ => none
    | _ => none
  | .convert src dst x, some t => match P.underlying src, P.underlying dst, s.evy x with
    | some _, some .string, some (.int _ n) => bif Nat.blt t s.n then some (K { s with fr := (t, .str (renc n)) :: s.fr }) else none
    | _, _, _ => none
  | _, _ => none
section
variable {P : Program} {w₀ : World} {G₀ : Gh} {hp₀ : List (Nat × Box)} {G : Gh} {s : St} {a : Act} {w : World}
omit [LC] in
theorem bel_put (w : World) (B : Nat) (o : Obj) : Bel (fun b => b = B) w (w.putObj B o) :=
  ⟨rfl, rfl, rfl, by simp, fun k _ hne => World.putObj_heap_other hne⟩
/-- another thing lies in a box -/
theorem Rel.setBox (hr : Rel w₀ G₀ hp₀ G s a w) {n : Nat} {bx bx' : Box} {B : Nat} (hn : look s.hp n = some bx) (hB : G.at n bx = some B) (hB' : ∀ c, G.at n bx' = some c → c = B) {o : Obj}
    (hok : BoxOk G (w.putObj B o) n bx') (hi : ∀ o, G.imm B o = none) : Rel w₀ G₀ hp₀ G { s with hp := (n, bx') :: s.hp } a (w.putObj B o) :=
  ⟨hr.defers, hr.size, hr.frame, fun m hm hl => hr.fresh m hm (by
    simp only [look] at hl
    cases hb : Nat.beq n m
    · rw [hb] at hl; exact hl
    · rw [hb] at hl; cases hl), hr.fin.update' hn hB hB' (bel_put w B o) hok hi⟩
def Gh.addBox (G : Gh) (k : Nat) (B : Nat) : Gh := { imm := G.imm, box := fun m => bif Nat.beq m k then some B else G.box m, own := G.own }
omit [LC] in
theorem Gh.addBox_le {k B : Nat} (h : G.box k = none) : G.le (G.addBox k B) :=
  ⟨fun _ _ _ h => h, fun n B' hn => by
    show (bif Nat.beq n k then some B else G.box n) = _
    cases hb : Nat.beq n k
    · exact hn
    · (have := Nat.eq_of_beq_eq_true hb; subst this; rw [h] at hn; cases hn), fun _ _ h => h⟩
omit [LC] in
theorem Gh.addBox_self {k B : Nat} : (G.addBox k B).box k = some B := by show (bif Nat.beq k k then some B else G.box k) = _; simp
omit [LC] in
theorem Gh.addBox_ne {k B m : Nat} (h : m ≠ k) : (G.addBox k B).box m = G.box m := by
  show (bif Nat.beq m k then some B else G.box m) = _
  cases hb : Nat.beq m k
  · rfl
  · exact absurd (Nat.eq_of_beq_eq_true hb) h
/-- a new box that holds no cells -/
theorem Rel.newBox (hr : Rel w₀ G₀ hp₀ G s a w) {k : Nat} {bx : Box} {o : Obj} (hk : look s.hp k = none) (hkx : s.nx ≤ k) (hat : ∀ b, (G.addBox k w.heap.size).at k bx = some b → b = w.heap.size)
    (hok : BoxOk (G.addBox k w.heap.size) (w.alloc o) k bx) : Rel w₀ G₀ hp₀ (G.addBox k w.heap.size) { s with hp := (k, bx) :: s.hp } a (w.alloc o) := by
  obtain ⟨hkb, hko⟩ := hr.fresh k hkx hk
  have hle : G.le (G.addBox k w.heap.size) := Gh.addBox_le hkb
  have hl1 : ∀ n b, look [(k, bx)] n = some b → n = k ∧ b = bx := fun n b h => by
    simp only [look] at h
    cases hb : Nat.beq k n
    · rw [hb] at h; cases h
    · rw [hb] at h; simp only [cond_true, Option.some.injEq] at h
      exact ⟨(Nat.eq_of_beq_eq_true hb).symm, h.symm⟩
  have hlt : ∀ b o v, G.imm b o = some v → b < w.heap.size := fun b o v h => World.block_lt_of_cell? _ _ (hr.fin.mem.agree _ _ _ h)
  refine ⟨by obtain ⟨bs, h1, h2⟩ := hr.defers; exact ⟨bs, h1, defers_le hle.box h2⟩, hr.size, fun i x hx => by obtain ⟨v, h1, h2⟩ := hr.frame i x hx; exact ⟨v, h1, h2.le hle⟩, fun m hm hl => ?_, ?_⟩
  · simp only [look] at hl
    cases hb : Nat.beq k m
    · rw [hb] at hl
      obtain ⟨h1, h2⟩ := hr.fresh m hm hl
      exact ⟨by rw [Gh.addBox_ne (fun e => by subst e; simp at hb)]; exact h1, h2⟩
    · rw [hb] at hl; cases hl
  · refine hr.fin.extend (new := [(k, bx)]) hle (still_alloc _ _) (fun _ _ _ h => .inl h) (fun b o v h => ?_) hr.fin.mem.one ?_ ?_ ?_
    · rw [World.cell?_alloc_lt _ _ _ (hlt b o v h)]; exact hr.fin.mem.agree _ _ _ h
    · intro n b h
      obtain ⟨rfl, _⟩ := hl1 n b h; exact hk
    · intro n b h
      obtain ⟨rfl, rfl⟩ := hl1 n b h
      exact ⟨hok, fun b hb => by rw [hat b hb]; exact Nat.le_refl _⟩
    · intro n m b b' c h1 h2 _ _
      obtain ⟨rfl, _⟩ := hl1 n b h1
      obtain ⟨rfl, _⟩ := hl1 m b' h2
      rfl

omit [LC] in
theorem size_mk (l : List UInt8) : (⟨l.toArray⟩ : ByteArray).size = l.length := by simp [ByteArray.size]
theorem itOp_ok {R : Type} (hr : Rel w₀ G₀ hp₀ G s a w) {o : Oper} {K : St → Option R} {r : Option R} {x : R} (h : itOp P s o K = some r) (hx : r = some x) {N : Act → World → Prop} (hN : ∀ s', K s' = some x → ∀ G' a' w', Rel w₀ G₀ hp₀ G' s' a' w' → N a' w') : oDoes P o a w N := by
  obtain ⟨dst, op, ty, pos, after, guard⟩ := o
  unfold itOp at h
  split at h
  · rename_i T y t e1 e2
    simp only at e1 e2; subst e1 e2
    split at h
    · rename_i l hu hy
      cases hb : noRange (s.nx + 32 * t) s.hp && Nat.blt t s.n <;> rw [hb] at h <;> simp only [cond_true, cond_false, reduceCtorEq, Option.some.injEq] at h
      simp only [Bool.and_eq_true] at hb
      subst h
      have hk := noRange_look hb.1 _ (Nat.le_refl _) (by omega)
      have he : a.eval y = .string ⟨l.toArray⟩ := ev_ok hr hy
      refine oDoes_of_wp (by simp) ?_
      unfold Oper.wp
      have hrun : (execOp a.eval ⟨some t, .range T y, ty, pos, after, guard⟩).run P w = .ok (.value (.pointer (some ⟨w.heap.size, 0, none⟩))) (w.iter ⟨l.toArray⟩ 0) := by
        simp [execOp, he, run_range_string w T ⟨l.toArray⟩ hu]
      rw [hrun]
      have hr1 := hr.newBox (k := s.nx + 32 * t) (bx := .it l 0) (o := .stringIter ⟨l.toArray⟩ 0) hk (by omega) (fun b hb => by
        have hb : (G.addBox (s.nx + 32 * t) w.heap.size).box (s.nx + 32 * t) = some b := hb
        rw [Gh.addBox_self] at hb; injection hb with hb; exact hb.symm)
        ⟨w.heap.size, Gh.addBox_self, heap_alloc_top _ _, fun o => by
          cases hq : (G.addBox (s.nx + 32 * t) w.heap.size).imm w.heap.size o with
          | none => rfl
          | some v =>
            have := World.block_lt_of_cell? _ _ (hr.fin.mem.agree _ _ _ hq)
            simp at this⟩
      exact hN _ hx _ _ _ (aval_rel (v := .ptr (s.nx + 32 * t) 0) hr1 (by simp only [St.add, hb.2, cond_true, List.nil_append]) ⟨w.heap.size, Gh.addBox_self, rfl⟩)
    · cases h
  · rename_i y t e1 e2
    simp only at e1 e2; subst e1 e2
    split at h
    · rename_i b hy
      split at h
      · rename_i l p hb
        cases ht : Nat.blt t s.n <;> rw [ht] at h <;> simp only [cond_true, cond_false, reduceCtorEq, Option.some.injEq] at h
        subst h
        obtain ⟨B, hB, he⟩ := ev_ok hr hy
        obtain ⟨B', k1, k2, k3⟩ := hr.fin.mem.holds b _ hb
        rw [hB] at k1; injection k1 with k1; subst k1
        refine oDoes_of_wp (by simp) ?_
        unfold Oper.wp
        cases hp : Nat.blt p l.length <;> rw [hp] at hx <;> simp only [cond_true, cond_false] at hx
        · have hp' : ¬ p < (⟨l.toArray⟩ : ByteArray).size := fun hlt => by
            rw [size_mk] at hlt
            have : Nat.blt p l.length = true := Nat.ble_eq_true_of_le hlt
            rw [hp] at this; cases this
          have hrun : (execOp a.eval ⟨some t, .next y true, ty, pos, after, guard⟩).run P w = .ok (.value (.tuple #[.bool false])) w := by
            simp [execOp, he, Instr.next, getObj, Sem.run, k2, hp']
          rw [hrun]
          exact hN _ hx _ _ _ (aval_rel (v := .tup [.val (.bool false)]) hr (by simp only [St.add, ht, cond_true, List.nil_append]) ⟨_, rfl, rfl, trivial⟩)
        · have hp' : p < (⟨l.toArray⟩ : ByteArray).size := by
            rw [size_mk]
            exact Nat.le_of_ble_eq_true hp
          have hlt := (Array.getElem?_eq_some_iff.1 k2).1
          have hrun : (execOp a.eval ⟨some t, .next y true, ty, pos, after, guard⟩).run P w = .ok (.value (.tuple #[.bool true, .int .i64 p, .int .i32 (rdec l p).1])) (w.putObj B (.stringIter ⟨l.toArray⟩ (p + (rdec l p).2))) := by
            simp [execOp, he, Instr.next, getObj, setObj, Sem.run, k2, hp', goInt, rdec, World.putObj]
          rw [hrun]
          have hr1 := hr.setBox (bx' := .it l (p + (rdec l p).2)) (o := .stringIter ⟨l.toArray⟩ (p + (rdec l p).2)) hb (show G.at b (.it l p) = some B from hB) (fun c hc => by
            have hc : G.box b = some c := hc
            rw [hB] at hc; exact (Option.some.inj hc).symm) ⟨B, hB, World.putObj_heap_same hlt, k3⟩ k3
          exact hN _ hx _ _ _ (aval_rel (v := .tup [.val (.bool true), .int .i64 p, .int .i32 (rdec l p).1]) hr1 (by simp only [St.add, ht, cond_true, List.nil_append]) ⟨_, rfl, rfl, rfl, rfl, trivial⟩)
      · cases h
    · cases h
  · rename_i src d y t e1 e2
    simp only at e1 e2; subst e1 e2
    split at h
    · rename_i ds k n hs hd hy
      cases ht : Nat.blt t s.n <;> rw [ht] at h <;> simp only [cond_true, cond_false, reduceCtorEq, Option.some.injEq] at h
      subst h
      have he : a.eval y = .int k n := evy_ok hr hy
      refine oDoes_of_wp (by simp) ?_
      unfold Oper.wp
      have hrun : (execOp a.eval ⟨some t, .convert src d y, ty, pos, after, guard⟩).run P w = .ok (.value (.string ⟨(renc n).toArray⟩)) w := by
        simp [execOp, he, convert, run_underlying hs, run_underlying hd, Conv.intToString, renc]
      rw [hrun]
      exact hN _ hx _ _ _ (aval_rel (v := .str (renc n)) hr (by simp only [St.add, ht, cond_true, List.nil_append]) rfl)
    · cases h
  · cases h
end
end Go.Sym
/- Tables: parts of variables that no one changes. -/
namespace Go.Sym
open Go.RowKit
variable [LC]

def tabOp {R : Type} (P : Program) (s : St) (o : Oper) (K : St → Option R) : Option (Option R) :=
  match o.op, o.dst with
  | .indexAddr T (.global g) i, some t => match LC.glob g, P.underlying T with
    | some ⟨τ, l⟩, some (.array n E) => match tSize P E with
      | some sz => bif Nat.beq sz τ.sz && (Nat.ble l.length n && Nat.blt t s.n) then
          match s.evy i with
          | some (.int _ j) => some (match idx l j with | some y => K { s with fr := (t, .rop (τ.enc y)) :: s.fr } | none => none)
          | some (.byte c) => some (match l[c.toNat]? with | some y => K { s with fr := (t, .rop (τ.enc y)) :: s.fr } | none => none)
          | _ => none
        else none
      | none => none
    | _, _ => none
  | _, _ => none
section
variable {P : Program} {w₀ : World} {G₀ : Gh} {hp₀ : List (Nat × Box)} {G : Gh} {s : St} {a : Act} {w : World}
theorem tabOp_ok {R : Type} (hr : Rel w₀ G₀ hp₀ G s a w) {o : Oper} {K : St → Option R} {r : Option R} {x : R} (h : tabOp P s o K = some r) (hx : r = some x) {N : Act → World → Prop} (hN : ∀ s', K s' = some x → ∀ G' a' w', Rel w₀ G₀ hp₀ G' s' a' w' → N a' w') : oDoes P o a w N := by
  obtain ⟨dst, op, ty, pos, after, guard⟩ := o
  unfold tabOp at h
  split at h
  · rename_i T g i t e1 e2
    simp only at e1 e2; subst e1 e2
    split at h
    · rename_i τ l n E hg hu
      split at h
      · rename_i sz hsz
        cases hb : Nat.beq sz τ.sz && (Nat.ble l.length n && Nat.blt t s.n) <;> rw [hb] at h <;> simp only [cond_true, cond_false, reduceCtorEq] at h
        simp only [Bool.and_eq_true] at hb
        obtain ⟨b1, b2, b3⟩ := hb
        have b1 := Nat.eq_of_beq_eq_true b1
        have b2 := Nat.le_of_ble_eq_true b2
        subst b1
        have key : ∀ (j : Nat) (kk : IntKind) (y : τ.den), a.eval i = .int kk (j : Int) → l[j]? = some y → K { s with fr := (t, .rop (τ.enc y)) :: s.fr } = some x → oDoes P ⟨some t, .indexAddr T (.global g) i, ty, pos, after, guard⟩ a w N := by
          intro j kk y hi hy hk
          have hj : j < n := Nat.lt_of_lt_of_le (List.getElem?_eq_some_iff.1 hy).1 b2
          have hrun : (execOp a.eval ⟨some t, .indexAddr T (.global g) i, ty, pos, after, guard⟩).run P w = .ok (.value (.pointer (some ⟨g, j * τ.sz, none⟩))) w := by
            have hge : a.eval (.global g) = .pointer (some ⟨g, 0, none⟩) := by simp [Act.eval]
            simp [execOp, hge, hi, Instr.indexAt, asIntOf, run_underlying' hu, run_sizeOf' hsz, add_plain, Instr.sureAddr, hj]
          refine oDoes_of_wp (by simp) ?_
          unfold Oper.wp
          rw [hrun]
          exact hN _ hk _ _ _ (aval_rel (v := .rop (τ.enc y)) hr (by simp only [St.add, b3, cond_true, List.nil_append]) ⟨g, j * τ.sz, rfl, At_iff.2 (hr.fin.mem.tab.1 g τ l hg j y hy)⟩)
        split at h
        · rename_i kk j hi
          have h := Option.some.inj h
          rw [← h] at hx
          split at hx
          · rename_i y hy
            have hie : a.eval i = .int kk j := evy_ok hr hi
            obtain ⟨h1, h2⟩ := idx_some hy
            exact key j.toNat kk y (by rw [Int.toNat_of_nonneg h1]; exact hie) h2 hx
          · cases hx
        · rename_i c hi
          have h := Option.some.inj h
          rw [← h] at hx
          split at hx
          · rename_i y hy
            exact key c.toNat .u8 y (evy_ok hr hi) hy hx
          · cases hx
        · cases h
      · cases h
    · cases h
  · cases h
end
end Go.Sym
/- Slices that are made, the characters of texts, slice expressions with a third bound. -/
namespace Go.Sym
open Go.RowKit
variable [LC]

/-- the characters of a text, from a place on -/
def rvalsAt (s : List UInt8) : Nat → Nat → List Int
  | 0, _ => []
  | f + 1, i => bif Nat.blt i s.length then ((rdec s i).1 : Int) :: rvalsAt s f (i + (rdec s i).2) else []
def rvals (s : List UInt8) : List Int := rvalsAt s s.length 0
def mkOp {R : Type} (P : Program) (s : St) (o : Oper) (K : St → Option R) : Option (Option R) :=
  match o.op, o.dst with
  | .makeSlice T x y, some t => match P.underlying T with
    | some (.slice E) => match tyOf1 P E, tZero P E, tSize P E, s.evy x, s.evy y with
      | some τ, some [z0], some 1, some (.int _ n), some (.int _ m) => match τ.zero1 with
        | some z => bif zeroIs τ z0 && zeroFine P E && noRange (s.nx + 32 * t) s.hp && Nat.blt t s.n then
            some (bif decide (0 ≤ n ∧ n = m ∧ n ≤ 4294967296) then K { s with fr := (t, .own (s.nx + 32 * t)) :: s.fr, hp := (s.nx + 32 * t, .row τ (List.replicate n.toNat z) E) :: s.hp } else none) else none
        | none => none
      | _, _, _, _, _ => none
    | _ => none
  | .convert src dst x, some t => match P.underlying src, P.underlying dst with
    | some .string, some (.slice E) => match P.underlying E, s.ev x with
      | some (.int .i32), some (.str b) => bif noRange (s.nx + 32 * t) s.hp && Nat.blt t s.n then
          some (bif decide (b.length ≤ 4294967296) then K { s with fr := (t, .own (s.nx + 32 * t)) :: s.fr, hp := (s.nx + 32 * t, .row (.int .i32) (rvals b) E) :: s.hp } else none) else none
      | _, _ => none
    | some (.slice E), some .string => match P.underlying E, s.ev x with
      | some (.int .i32), some v => match runesOf s v with
        | some l => bif Nat.blt t s.n then some (K { s with fr := (t, .str (rtext l)) :: s.fr }) else none
        | none => none
      | _, _ => none
    | _, _ => none
  | .slice T x lo (some hi) (some mx), some t => match P.underlying T with
    | some (.slice E) => match tSize P E, evInt s lo, s.evy hi, s.evy mx, s.ev x with
      | some sz, some a, some (.int _ b), some (.int _ c), some (.sl τ l) => bif Nat.beq τ.sz sz && Nat.blt t s.n then
          some (bif decide (0 ≤ a.getD 0 ∧ a.getD 0 ≤ b ∧ b ≤ c ∧ c ≤ (l.length : Int)) then K { s with fr := (t, .sl τ ((l.drop (a.getD 0).toNat).take (b.toNat - (a.getD 0).toNat))) :: s.fr } else none) else none
      | _, _, _, _, _ => none
    | _ => none
  | _, _ => none
omit [LC] in
theorem runesFrom_rvals (s : List UInt8) : ∀ (f i : Nat) (acc : Array Value), Conv.runesFrom ⟨s.toArray⟩ f i acc = acc ++ ((rvalsAt s f i).map (Value.int .i32)).toArray
  | 0, i, acc => by simp [Conv.runesFrom, rvalsAt]
  | f + 1, i, acc => by
    unfold Conv.runesFrom rvalsAt
    rw [size_mk]
    by_cases h : i < s.length
    · have hb : Nat.blt i s.length = true := Nat.ble_eq_true_of_le h
      rw [if_pos h, hb]
      simp only [cond_true]
      rw [show Utf8.decode (⟨s.toArray⟩ : ByteArray) i = rdec s i from rfl]
      rw [runesFrom_rvals s f]
      simp
    · have hb : Nat.blt i s.length = false := by
        cases hq : Nat.blt i s.length
        · rfl
        · exact absurd (Nat.le_of_ble_eq_true hq) h
      rw [if_neg h, hb]
      simp
omit [LC] in
theorem rvalsAt_len (s : List UInt8) : ∀ (f i : Nat), (rvalsAt s f i).length ≤ f
  | 0, _ => Nat.le_refl _
  | f + 1, i => by
    unfold rvalsAt
    cases Nat.blt i s.length
    · simp
    · simp only [cond_true, List.length_cons]
      have := rvalsAt_len s f (i + (rdec s i).2); omega
omit [LC] in
theorem enc_runes (G : Gh) : ∀ (l : List Int), Reps (List.flatMap (β := AV) (Ty.int .i32).enc l) G (l.map (Value.int .i32))
  | [] => trivial
  | _ :: l => ⟨rfl, enc_runes G l⟩
section
variable {P : Program} {w₀ : World} {G₀ : Gh} {hp₀ : List (Nat × Box)} {G : Gh} {s : St} {a : Act} {w : World}
omit [LC] in
theorem still_drew_alloc (w : World) (o : Obj) : Still w (w.drew.alloc o) := ⟨rfl, rfl, rfl, by simp, fun k hk _ => Below.heap_alloc w.drew _ k hk⟩
omit [LC] in
theorem zero_one {τ : Ty} {z : τ.den} {x : AV} {G G' : Gh} {v : Value} (h : zeroIs τ x = true) (hz : τ.zero1 = some z) (hr : Rep x G v) (n : Nat) : Reps ((List.replicate n z).flatMap τ.enc) G' (List.replicate n v) := by
  induction n with
  | zero => trivial
  | succ n ih =>
    rw [List.replicate_succ, List.replicate_succ, List.flatMap_cons]
    exact reps_append (vs := [v]) (zeroIs_any h hz hr) ih
theorem mkOp_ok {R : Type} (hr : Rel w₀ G₀ hp₀ G s a w) {o : Oper} {K : St → Option R} {r : Option R} {x : R} (h : mkOp P s o K = some r) (hx : r = some x) {N : Act → World → Prop} (hN : ∀ s', K s' = some x → ∀ G' a' w', Rel w₀ G₀ hp₀ G' s' a' w' → N a' w') : oDoes P o a w N := by
  obtain ⟨dst, op, ty, pos, after, guard⟩ := o
  unfold mkOp at h
  split at h
  · rename_i T y1 y2 t e1 e2
    simp only at e1 e2; subst e1 e2
    split at h
    · rename_i E hu
      split at h
      · rename_i τ z0 kn n km m hτ hz0 hs1 hn hm
        split at h
        · rename_i z hz
          cases hb : zeroIs τ z0 && zeroFine P E && noRange (s.nx + 32 * t) s.hp && Nat.blt t s.n <;> rw [hb] at h <;> simp only [cond_true, cond_false, reduceCtorEq, Option.some.injEq] at h
          simp only [Bool.and_eq_true] at hb
          subst h
          cases hd : decide (0 ≤ n ∧ n = m ∧ n ≤ 4294967296) <;> rw [hd] at hx <;> simp only [cond_true, cond_false, reduceCtorEq] at hx
          obtain ⟨h0, rfl, h2⟩ := of_decide_eq_true hd
          have en : a.eval y1 = .int kn n := evy_ok hr hn
          have em : a.eval y2 = .int km n := evy_ok hr hm
          obtain ⟨i, zv, hi, hzv, q1, _, q3, q4, q5⟩ := zeroFine_ok hb.1.1.2 hs1
          unfold tZero at hz0
          rw [hi] at hz0
          simp only [hzv, Option.some.injEq] at hz0
          obtain ⟨v, hv, hzo⟩ : ∃ v, zv.cells.toList = [v] ∧ z0 = ofVal v := by
            cases hq : zv.cells.toList with
            | nil => rw [hq] at hz0; cases hz0
            | cons v l => rw [hq] at hz0; cases l with
              | nil => simp only [ofVals, List.cons.injEq, and_true] at hz0; exact ⟨v, rfl, hz0.symm⟩
              | cons _ _ => simp [ofVals] at hz0
          have hvc : zv.cells = #[v] := by rw [← Array.toArray_toList (xs := zv.cells), hv]
          have hv1 : v.oneCell' = true := q4 v (by rw [hv]; exact List.mem_singleton.2 rfl)
          have hbytes : (i.bytes : Int) * n ≤ 281474976710656 := by
            have : (i.bytes : Int) * n ≤ 32768 * 4294967296 := Int.mul_le_mul (by omega) h2 h0 (by omega)
            omega
          have hr1 := run_make (P := P) w T E i zv hu hi hzv kn km n n h0 (Int.le_refl _) hbytes (by omega)
          have hmc : madeCells zv.cells (n.toNat * i.size) = Array.replicate n.toNat v := by
            rw [q5, Nat.mul_one, hvc]
            apply Array.ext
            · simp [madeCells]
            · intro j h1 h2
              simp [madeCells, Nat.mod_one]
          rw [hmc] at hr1
          have hsz : τ.sz = 1 := is1_sz (zero1_is1 hz)
          have hz0v : Rep z0 G v := by rw [hzo]; exact rep_ofVal G v
          have hlen : (List.replicate n.toNat z).length = n.toNat := List.length_replicate
          obtain ⟨G', hG⟩ := row_rel (τ := τ) (l := List.replicate n.toNat z) (E := E) (ad := some ⟨w.heap.size, 0, none⟩) (c := n.toNat) (us := List.replicate n.toNat v) (w' := w.alloc (.cells (Array.replicate n.toNat v) E)) hr hb.1.2 (still_alloc _ _)
            ⟨by rw [hlen, hsz]; simp, .inr ⟨w.heap.size, Array.replicate n.toNat v, (0, 0), rfl, heap_alloc_top _ _, .inl rfl, by rw [hlen]; exact Nat.le_refl _, by simp only [maxLen]; omega, by simp [hsz], by rw [hlen, hsz]; simp, fun u hu => by
              rw [Array.toList_replicate] at hu; rw [(List.mem_replicate.1 hu).2]; exact hv1⟩⟩ (zero_one hb.1.1.1 hz hz0v _) (fun b hb => by injection hb with hb; simp at hb; omega)
            (s' := { s with fr := (t, .own (s.nx + 32 * t)) :: s.fr, hp := (s.nx + 32 * t, .row τ (List.replicate n.toNat z) E) :: s.hp }) (by simp only [St.add, hb.2, cond_true, List.cons_append, List.nil_append])
          refine oDoes_of_wp (by simp) ?_
          unfold Oper.wp
          rw [show (execOp a.eval ⟨some t, .makeSlice T y1 y2, ty, pos, after, guard⟩).run P w = .ok (.value (.slice (some ⟨w.heap.size, 0, none⟩) n.toNat n.toNat)) (w.alloc (.cells (Array.replicate n.toNat v) E)) by simp [execOp, en, em, hr1]]
          rw [hlen] at hG
          exact hN _ hx _ _ _ hG
        · cases h
      · cases h
    · cases h
  · rename_i src dst y t e1 e2
    simp only at e1 e2; subst e1 e2
    split at h
    · rename_i E hs hd
      split at h
      · rename_i b he hy
        cases hb : noRange (s.nx + 32 * t) s.hp && Nat.blt t s.n <;> rw [hb] at h <;> simp only [cond_true, cond_false, reduceCtorEq, Option.some.injEq] at h
        simp only [Bool.and_eq_true] at hb
        subst h
        cases hdd : decide (b.length ≤ 4294967296) <;> rw [hdd] at hx <;> simp only [cond_true, cond_false, reduceCtorEq] at hx
        have hbl := of_decide_eq_true hdd
        have hev : a.eval y = .string ⟨b.toArray⟩ := ev_ok hr hy
        have hrf : Conv.runesFrom (⟨b.toArray⟩ : ByteArray) (⟨b.toArray⟩ : ByteArray).size 0 #[] = ((rvals b).map (Value.int .i32)).toArray := by
          rw [runesFrom_rvals, size_mk]; simp [rvals]
        have hlr : (rvals b).length ≤ b.length := rvalsAt_len b _ _
        have hrun := run_runes_of_string (P := P) w src dst E (⟨b.toArray⟩ : ByteArray) hs hd he (by rw [hrf]; simp; omega)
        rw [hrf] at hrun
        simp only [List.size_toArray, List.length_map] at hrun
        have hcap : (rvals b).length ≤ grownCap w (rvals b).length 0 E := grownCap_ge _ _ _ _
        have hcap2 : grownCap w (rvals b).length 0 E ≤ maxLen := grownCap_le_maxLen _ _ _ _ (by simp only [maxLen]; omega)
        obtain ⟨G', hG⟩ := row_rel (τ := .int .i32) (l := rvals b) (E := E) (ad := some ⟨w.heap.size, 0, none⟩) (c := grownCap w (rvals b).length 0 E) (us := (rvals b).map (Value.int .i32)) (w' := w.drew.alloc (.cells (((rvals b).map (Value.int .i32)).toArray ++ Array.replicate (grownCap w (rvals b).length 0 E - (rvals b).length) (.int .i32 0)) E)) hr hb.1 (still_drew_alloc _ _)
          ⟨by rw [List.length_map]; exact (Nat.mul_one _).symm, .inr ⟨w.heap.size, _, (0, 0), rfl, heap_alloc_top w.drew _, .inl rfl, hcap, hcap2, by rw [show (Ty.int IntKind.i32).sz = 1 from rfl, Nat.mul_one, Array.size_append, Array.size_replicate, List.size_toArray, List.length_map]; omega, by rw [show (Ty.int IntKind.i32).sz = 1 from rfl, Nat.mul_one, Array.toList_append, show List.length (α := (Ty.int IntKind.i32).den) (rvals b) = ((rvals b).map (Value.int .i32)).length from (List.length_map _).symm]; exact List.take_left' rfl, fun u hu => by
            simp only [Array.toList_append, List.mem_append, List.mem_map, Array.toList_replicate, List.mem_replicate] at hu
            rcases hu with ⟨c, _, rfl⟩ | ⟨_, rfl⟩ <;> rfl⟩⟩ (enc_runes _ _) (fun b hb => by injection hb with hb; simp at hb; omega)
          (s' := { s with fr := (t, .own (s.nx + 32 * t)) :: s.fr, hp := (s.nx + 32 * t, .row (.int .i32) (rvals b) E) :: s.hp }) (by simp only [St.add, hb.2, cond_true, List.cons_append, List.nil_append])
        refine oDoes_of_wp (by simp) ?_
        unfold Oper.wp
        rw [show (execOp a.eval ⟨some t, .convert src dst y, ty, pos, after, guard⟩).run P w = .ok (.value (.slice (some ⟨w.heap.size, 0, none⟩) (rvals b).length (grownCap w (rvals b).length 0 E))) (w.drew.alloc (.cells (((rvals b).map (Value.int .i32)).toArray ++ Array.replicate (grownCap w (rvals b).length 0 E - (rvals b).length) (.int .i32 0)) E)) by simp [execOp, hev, hrun]]
        exact hN _ hx _ _ _ hG
      · cases h
    · rename_i E hs hd
      split at h
      · rename_i v he hy
        split at h
        · rename_i l hl
          cases ht : Nat.blt t s.n <;> rw [ht] at h <;> simp only [cond_true, cond_false, reduceCtorEq, Option.some.injEq] at h
          subst h
          have hsrc := runesOf_src hl
          have hrun : (convert src dst (a.eval y)).run P w = .ok (.string ⟨(rtext l).toArray⟩) w := by
            rcases src_ok hr (ev_ok hr hy) hsrc with ⟨b', rfl, _⟩ | ⟨ad, c, us, he1, h1, h2, h3⟩
            · simp [runesOf] at hl
            · rw [he1]
              have hus := reps_runes h1
              cases ad with
              | none =>
                have : l = [] := by
                  rcases h3 with h3 | ⟨_, _, h3, _⟩
                  · rw [hus] at h3; simpa using h3
                  · cases h3
                subst this
                rw [run_convert_runes_nil w src dst E _ c hs he hd]; rfl
              | some ad =>
                have hlc := run_loadCells0 (P := P) (w := w) (ad := ad) h3
                have hlen : us.length = l.length := by rw [hus]; simp
                rw [hlen, hus] at hlc
                rw [run_convert_runes_string w src dst E _ _ _ hs he hd, run_runesToString w ad l.length c l hlc, runesBytes_rtext]
          refine oDoes_of_wp (by simp) ?_
          unfold Oper.wp
          rw [show (execOp a.eval ⟨some t, .convert src dst y, ty, pos, after, guard⟩).run P w = .ok (.value (.string ⟨(rtext l).toArray⟩)) w by simp [execOp, hrun]]
          exact hN _ hx _ _ _ (aval_rel (v := .str (rtext l)) hr (by simp only [St.add, ht, cond_true, List.nil_append]) rfl)
        · cases h
      · cases h
    · cases h
  · rename_i T y lo hi mx t e1 e2
    simp only at e1 e2; subst e1 e2
    split at h
    · rename_i E hu
      split at h
      · rename_i sz lo' kb b kc c τ l hsz hlo hhi hmx hy
        cases hb : Nat.beq τ.sz sz && Nat.blt t s.n <;> rw [hb] at h <;> simp only [cond_true, cond_false, reduceCtorEq, Option.some.injEq] at h
        simp only [Bool.and_eq_true] at hb
        subst h
        cases hdd : decide (0 ≤ lo'.getD 0 ∧ lo'.getD 0 ≤ b ∧ b ≤ c ∧ c ≤ (l.length : Int)) <;> rw [hdd] at hx <;> simp only [cond_true, cond_false, reduceCtorEq] at hx
        obtain ⟨g0, g1, g2, g3⟩ := of_decide_eq_true hdd
        have hq := Nat.eq_of_beq_eq_true hb.1
        subst hq
        obtain ⟨ad, cp, hv, hc, hl⟩ := ev_ok hr hy
        have eb : a.eval hi = .int kb b := evy_ok hr hhi
        have ec : a.eval mx = .int kc c := evy_ok hr hmx
        have hbounds : (Instr.sliceBounds true l.length cp (lo.map a.eval) (some (a.eval hi)) (some (a.eval mx))).run P w = .ok ((lo'.getD 0).toNat, b.toNat, c.toNat) w := by
          rcases evInt_ok hr hlo with ⟨rfl, rfl⟩ | ⟨xo, kx, m, rfl, rfl, hxo⟩
          · simp [Instr.sliceBounds, eb, ec, run_sliceBound' (P := P) (w := w) (show 0 ≤ c by omega) (show c ≤ (cp : Int) by omega), run_sliceBound' (P := P) (w := w) (show 0 ≤ b by omega) (show b ≤ (c.toNat : Int) by omega)]
          · simp only [Option.getD_some] at g0 g1
            simp [Instr.sliceBounds, eb, ec, hxo, run_sliceBound' (P := P) (w := w) (show 0 ≤ c by omega) (show c ≤ (cp : Int) by omega), run_sliceBound' (P := P) (w := w) (show 0 ≤ b by omega) (show b ≤ (c.toNat : Int) by omega), run_sliceBound' (P := P) (w := w) g0 (show m ≤ (b.toNat : Int) by omega)]
        generalize lo'.getD 0 = i0 at *
        have hrun : (Instr.sliceAt T (a.eval y) (lo.map a.eval) (some (a.eval hi)) (some (a.eval mx))).run P w = .ok (.slice (if c.toNat = i0.toNat then ad else ad.map (·.add (i0.toNat * τ.sz))) (b.toNat - i0.toNat) (c.toNat - i0.toNat)) w := by
          simp [Instr.sliceAt, Instr.slice, run_underlying' hu, hv, hbounds, run_sizeOf' hsz]
        refine oDoes_of_wp (by simp) ?_
        unfold Oper.wp
        rw [show (execOp a.eval ⟨some t, .slice T y lo (some hi) (some mx), ty, pos, after, guard⟩).run P w = .ok (.value (.slice (if c.toNat = i0.toNat then ad else ad.map (·.add (i0.toNat * τ.sz))) (b.toNat - i0.toNat) (c.toNat - i0.toNat))) w by simp [execOp, hrun]]
        refine hN _ hx _ _ _ (aval_rel (v := .sl τ ((l.drop i0.toNat).take (b.toNat - i0.toNat))) hr (by simp only [St.add, hb.2, cond_true, List.nil_append]) ?_)
        have hlen : ((l.drop i0.toNat).take (b.toNat - i0.toNat)).length = b.toNat - i0.toNat := by simp; omega
        refine ⟨_, _, by rw [hlen], by rw [hlen]; omega, ?_⟩
        rcases hl with rfl | ⟨B, o, rfl, hcells⟩
        · exact .inl (by simp)
        · by_cases hci : c.toNat = i0.toNat
          · exact .inl (List.eq_nil_of_length_eq_zero (by rw [hlen]; omega))
          · refine .inr ⟨B, o + i0.toNat * τ.sz, by rw [if_neg hci]; simp [add_plain], fun k y hy => ?_⟩
            rw [List.getElem?_take] at hy
            split at hy
            · rw [List.getElem?_drop] at hy
              have := hcells _ _ hy
              rwa [show o + i0.toNat * τ.sz + k * τ.sz = o + (i0.toNat + k) * τ.sz by rw [Nat.add_mul]; omega]
            · cases hy
      · cases h
    · cases h
  · cases h
end
end Go.Sym
/- A struct whose first field is a pointer to its own kind (strings.Builder): that field is nil, or leads to the struct itself. -/
namespace Go.Sym
open Go.RowKit
variable [LC]

def selfT (P : Program) (T : TypeId) : Bool := match P.underlying T with
  | some (.struct fs) => match fs.toList with
    | [f, g] => match P.underlying f.type, P.underlying g.type with
      | some (.pointer T'), some (.slice _) => Nat.beq T' T
      | _, _ => false
    | _ => false
  | _ => false
def isNilP : AV → Bool
  | .val (.pointer none) => true
  | _ => false
def nilToPn (n : Nat) : List AV → List AV
  | [] => []
  | x :: cs => (bif isNilP x then .pn n else x) :: cs
def sbOp (P : Program) (s : St) (o : Oper) : Option St :=
  match o.op, o.dst with
  | .alloc T, some t => bif selfT P T then (match aex P s .none o with
    | some ([], s1) => match look s1.hp (s.nx + 32 * t) with
      | some (.cells cs T') => some { s1 with hp := (s.nx + 32 * t, .cells (nilToPn (s.nx + 32 * t) cs) T') :: s1.hp }
      | _ => none
    | _ => none) else none
  | _, _ => none
section
variable {P : Program} {w₀ : World} {G₀ : Gh} {hp₀ : List (Nat × Box)} {G : Gh} {s : St} {a : Act} {w : World}
theorem Rel.rebox {n : Nat} {bx bx' : Box} (hr : Rel w₀ G₀ hp₀ G s a w) (h : look s.hp n = some bx) (hat : G.at n bx' = G.at n bx) (hok : BoxOk G w n bx') :
    Rel w₀ G₀ hp₀ G { s with hp := (n, bx') :: s.hp } a w := by
  have key : ∀ m b, look ((n, bx') :: s.hp) m = some b → (m = n ∧ b = bx') ∨ look s.hp m = some b := fun m b hh => by
    simp only [look] at hh
    cases hb : Nat.beq n m
    · rw [hb] at hh; exact .inr hh
    · rw [hb] at hh; simp only [cond_true, Option.some.injEq] at hh
      exact .inl ⟨(Nat.eq_of_beq_eq_true hb).symm, hh.symm⟩
  have old : ∀ m b, look ((n, bx') :: s.hp) m = some b → ∃ b0, look s.hp m = some b0 ∧ G.at m b0 = G.at m b := fun m b hh => by
    rcases key m b hh with ⟨rfl, rfl⟩ | h1
    · exact ⟨bx, h, hat.symm⟩
    · exact ⟨b, h1, rfl⟩
  refine ⟨hr.defers, hr.size, hr.frame, fun m hm hl => hr.fresh m hm ?_, ⟨⟨hr.fin.mem.agree, hr.fin.mem.one, fun m b hh => ?_, fun m m' b b' c h1 h2 h3 h4 => ?_, hr.fin.mem.tab⟩, hr.fin.bel, hr.fin.imm_le, hr.fin.imm_new, fun m b c h1 h2 => ?_, hr.fin.keep, hr.fin.keepOwn⟩⟩
  · simp only [look] at hl
    cases hb : Nat.beq n m
    · rw [hb] at hl; exact hl
    · rw [hb] at hl; cases hl
  · rcases key m b hh with ⟨rfl, rfl⟩ | h1
    · exact hok
    · exact hr.fin.mem.holds m b h1
  · obtain ⟨c1, k1, e1⟩ := old m b h1
    obtain ⟨c2, k2, e2⟩ := old m' b' h2
    exact hr.fin.mem.apart m m' c1 c2 c k1 k2 (e1.trans h3) (e2.trans h4)
  · obtain ⟨c1, k1, e1⟩ := old m b h1
    exact hr.fin.base m c1 c k1 (e1.trans h2)
omit [LC] in
theorem isNilP_eq {x : AV} (h : isNilP x = true) : x = .val (.pointer none) := by
  unfold isNilP at h
  split at h
  · rfl
  · cases h
omit [LC] in
theorem reps_nilToPn {n B : Nat} (hB : G.box n = some B) : ∀ {cs : List AV} {vs : List Value}, Reps cs G vs → Reps (nilToPn n cs) G vs
  | [], [], _ => trivial
  | x :: cs, v :: vs, ⟨h1, h2⟩ => by
    refine ⟨?_, h2⟩
    cases hb : isNilP x
    · exact h1
    · have := isNilP_eq hb; subst this
      exact ⟨B, hB, .inl h1⟩
  | [], _ :: _, h => h.elim
  | _ :: _, [], h => h.elim
theorem sbOp_ok (hr : Rel w₀ G₀ hp₀ G s a w) {o : Oper} {s' : St} (h : sbOp P s o = some s') {N : Act → World → Prop} (hN : ∀ G' a' w', Rel w₀ G₀ hp₀ G' s' a' w' → N a' w') : oDoes P o a w N := by
  unfold sbOp at h
  split at h
  · rename_i T t _ _
    cases hs : selfT P T <;> rw [hs] at h <;> simp only [cond_true, cond_false, reduceCtorEq] at h
    split at h
    · rename_i s1 ha
      split at h
      · rename_i cs T' hl
        simp only [Option.some.injEq] at h; subst h
        refine aex_ok hr ha trivial fun G' a' w' hr' => hN G' a' w' ?_
        obtain ⟨B, vs, h1, h2, h3, h4, h5⟩ := hr'.fin.mem.holds _ _ hl
        exact hr'.rebox hl rfl ⟨B, vs, h1, h2, reps_nilToPn h1 h3, h4, h5⟩
      · cases h
    · cases h
  · cases h
end
end Go.Sym
/- One operation, and a region in the order of the text, with what is emitted. -/
namespace Go.Sym
open Go.RowKit
variable [LC]

/- own slices that a pattern wants to see as data -/
mutual
def ownsOf : AV → List Nat
  | .own k => [k]
  | .agg xs => ownsOfs xs
  | .tup xs => ownsOfs xs
  | .fn _ _ xs => ownsOfs xs
  | _ => []
def ownsOfs : List AV → List Nat
  | [] => []
  | x :: xs => ownsOf x ++ ownsOfs xs
end
mutual
def frzOf : Pt → AV → List Nat
  | .h _, x => ownsOf x
  | .agg ps, x => match x with
    | .agg xs => frzOfs ps xs
    | _ => []
  | .tup ps, x => match x with
    | .tup xs => frzOfs ps xs
    | _ => []
  | .fn _ ps, x => match x with
    | .fn _ _ xs => frzOfs ps xs
    | _ => []
  | _, _ => []
def frzOfs : List Pt → List AV → List Nat
  | [], _ => []
  | p :: ps, xs => match xs with
    | x :: xs => frzOf p x ++ frzOfs ps xs
    | [] => []
end
def frzL : List Nat → St → St
  | [], s => s
  | k :: ks, s => match s.freeze k with
    | some s' => frzL ks s'
    | none => frzL ks s
/- the names that patterns give -/
mutual
def nmP : Pt → AV → NM
  | .ptr b _, x => match asPtr x with
    | some (b', _) => [(b, b')]
    | none => []
  | .own k, x => match asOwn x with
    | some k' => [(k, k')]
    | none => []
  | .el k _, x => match asEl x with
    | some (k', _) => [(k, k')]
    | none => []
  | .iel _ k _, x => match asIEl x with
    | some (_, k', _) => [(k, k')]
    | none => []
  | .yld k, x => match asYld x with
    | some k' => [(k, k')]
    | none => []
  | .pn k, x => match asPn x with
    | some k' => [(k, k')]
    | none => []
  | .agg ps, x => match asAgg x with
    | some xs => nmPs ps xs
    | none => []
  | .tup ps, x => match asTup x with
    | some xs => nmPs ps xs
    | none => []
  | .fn _ ps, x => match asFn x with
    | some (_, xs) => nmPs ps xs
    | none => []
  | _, _ => []
def nmPs : List Pt → List AV → NM
  | [], _ => []
  | p :: ps, xs => match xs with
    | x :: xs => nmP p x ++ nmPs ps xs
    | [] => []
end
def lookB : List (Nat × BPt) → Nat → Option BPt
  | [], _ => none
  | (k, v) :: r, i => bif Nat.beq k i then some v else lookB r i
/- boxes: own slices turned to data, nil to own slices -/
def coB1 (bs : List (Nat × BPt)) (b : Nat) : List Pt → Nat → St → St
  | [], _, s => s
  | p :: ps, off, s => match p, look s.hp b with
    | .own k, some (.cells cs _) => match lookB bs k, cs[off]? with
      | some (.row τ E), some x => bif isNil x then (match s.ownCell b off τ E with
          | some s' => coB1 bs b ps (off + 1) s'
          | none => coB1 bs b ps (off + 1) s) else coB1 bs b ps (off + 1) s
      | _, _ => coB1 bs b ps (off + 1) s
    | p, some (.cells cs _) => match cs[off]? with
      | some x => coB1 bs b ps (off + 1) (frzL (frzOf p x) s)
      | none => coB1 bs b ps (off + 1) s
    | _, _ => coB1 bs b ps (off + 1) s
def coB (bs : List (Nat × BPt)) (nm : NM) : List (Nat × BPt) → St → St
  | [], s => s
  | (n, p) :: r, s => match p, lookN nm n with
    | .cells ps _, some b => coB bs nm r (coB1 bs b ps 0 s)
    | .dat _ _, some b => match look s.hp b with
      | some (.cells cs _) => coB bs nm r (frzL (ownsOfs cs) s)
      | _ => coB bs nm r s
    | _, _ => coB bs nm r s
/- slots -/
def coF (bs : List (Nat × BPt)) : List (Nat × Pt) → St → St
  | [], s => s
  | (i, p) :: r, s => match p, look s.fr i with
    | .own k, some x => bif isNil x then (match lookB bs k with
        | some (.row τ E) => match s.ownNil i τ E with
          | some s' => coF bs r s'
          | none => coF bs r s
        | _ => coF bs r s) else coF bs r s
    | p, some x => coF bs r (frzL (frzOf p x) s)
    | _, none => coF bs r s
def nmF (fr : List (Nat × AV)) : List (Nat × Pt) → NM
  | [] => []
  | (i, p) :: r => match look fr i with
    | some x => nmP p x ++ nmF fr r
    | none => nmF fr r
/-- names by a way through memory -/
def nmH (s : St) : List (Nat × BPt) → NM → NM
  | [], nm => nm
  | (n, p) :: r, nm => match lookN nm n with
    | some b => match p, look s.hp b with
      | .cells ps _, some (.cells cs _) => nmH s r (nm ++ nmPs ps cs)
      | .loop _ _ _ _ fr _ _ D, some (.loop _ _ _ _ fr' _ _ D') => nmH s r (nm ++ ((D, D') :: nmF fr' fr))
      | _, _ => nmH s r nm
    | none => nmH s r nm
def LS.co (ls : LS) (ids : NM) (s : St) : St := coF ls.hp ls.fr (coB ls.hp (nmH s ls.hp (ids ++ nmF s.fr ls.fr)) ls.hp s)

section
variable {P : Program} {w₀ : World} {G₀ : Gh} {hp₀ : List (Nat × Box)} {a : Act} {w : World}
theorem Rel.frzL : ∀ {ks : List Nat} {s : St} {G : Gh}, Rel w₀ G₀ hp₀ G s a w → ∃ G', Rel w₀ G₀ hp₀ G' (frzL ks s) a w
  | [], s, G, hr => ⟨G, hr⟩
  | k :: ks, s, G, hr => by
    simp only [Sym.frzL]
    split
    · rename_i s' h
      obtain ⟨G', hr'⟩ := hr.freeze h
      exact Rel.frzL hr'
    · exact Rel.frzL hr
theorem Rel.coB1 {bs : List (Nat × BPt)} {b : Nat} : ∀ {ps : List Pt} {off : Nat} {s : St} {G : Gh}, Rel w₀ G₀ hp₀ G s a w → ∃ G', Rel w₀ G₀ hp₀ G' (coB1 bs b ps off s) a w
  | [], _, s, G, hr => ⟨G, hr⟩
  | p :: ps, off, s, G, hr => by
    unfold Sym.coB1
    split
    · split
      · rename_i x _ _
        cases hb : isNil x <;> simp only [cond_true, cond_false]
        · exact Rel.coB1 hr
        · split
          · rename_i h
            obtain ⟨G', hr'⟩ := hr.ownCell h
            exact Rel.coB1 hr'
          · exact Rel.coB1 hr
      · exact Rel.coB1 hr
    · split
      · obtain ⟨G', hr'⟩ := hr.frzL
        exact Rel.coB1 hr'
      · exact Rel.coB1 hr
    · exact Rel.coB1 hr
theorem Rel.coB {bs : List (Nat × BPt)} {nm : NM} : ∀ {l : List (Nat × BPt)} {s : St} {G : Gh}, Rel w₀ G₀ hp₀ G s a w → ∃ G', Rel w₀ G₀ hp₀ G' (coB bs nm l s) a w
  | [], s, G, hr => ⟨G, hr⟩
  | (n, p) :: r, s, G, hr => by
    unfold Sym.coB
    split
    · obtain ⟨G', hr'⟩ := hr.coB1
      exact Rel.coB hr'
    · split
      · obtain ⟨G', hr'⟩ := hr.frzL
        exact Rel.coB hr'
      · exact Rel.coB hr
    · exact Rel.coB hr
theorem Rel.coF {bs : List (Nat × BPt)} : ∀ {l : List (Nat × Pt)} {s : St} {G : Gh}, Rel w₀ G₀ hp₀ G s a w → ∃ G', Rel w₀ G₀ hp₀ G' (coF bs l s) a w
  | [], s, G, hr => ⟨G, hr⟩
  | (i, p) :: r, s, G, hr => by
    unfold Sym.coF
    split
    · rename_i x _
      cases hb : isNil x <;> simp only [cond_true, cond_false]
      · exact Rel.coF hr
      · split
        · split
          · rename_i h
            obtain ⟨G', hr'⟩ := hr.ownNil h
            exact Rel.coF hr'
          · exact Rel.coF hr
        · exact Rel.coF hr
    · obtain ⟨G', hr'⟩ := hr.frzL
      exact Rel.coF hr'
    · exact Rel.coF hr
theorem Rel.co {s : St} {G : Gh} (hr : Rel w₀ G₀ hp₀ G s a w) (ls : LS) (ids : NM) : ∃ G', Rel w₀ G₀ hp₀ G' (ls.co ids s) a w := by
  obtain ⟨G', hr'⟩ := hr.coB (bs := ls.hp) (nm := nmH s ls.hp (ids ++ nmF s.fr ls.fr)) (l := ls.hp)
  exact hr'.coF
end

def nmY (k : Key) (m : Nat) : NM := match k with
  | .yld m' => [(m', m)]
  | _ => []
/-- entries for a callee -/
def entFor (g : Ent → Bool) : List Ent → Option Ent
  | [] => none
  | e :: es => bif g e then some e else entFor g es
/-- own slices that a callee wants to see as data -/
def coer (tb : Tb) (s : St) (op : Op) : Option St :=
  match op with
  | .call { callee := .value g, args, argTypes := _ } => match s.ev g, s.evs args.toList with
    | some (.fn (.func f) [] cap), some xs => match entFor (fun e => keyIs f e.key) tb.ents with
      | some e => some (coB e.hp (nmH s e.hp (nmPs e.args (xs ++ cap))) e.hp (frzL (frzOfs e.args (xs ++ cap)) s))
      | none => none
    | some (.yld m), some ys => match look s.hp m with
      | some (.loop _ _ _ _ _ _ tag _) => match entFor (fun e => match e.key with
          | .yld m' => match lookB e.hp m' with
            | some (.loop _ _ _ _ _ _ tag' _) => Nat.beq tag' tag
            | _ => false
          | _ => false) tb.ents with
        | some e => some (coB e.hp (nmH s e.hp (nmY e.key m ++ nmPs e.args ys)) e.hp (frzL (frzOfs e.args ys) s))
        | none => none
      | _ => none
    | _, _ => none
  | .slice _ x _ _ _ => match s.ev x with
    | some (.own k) => some (frzL [k] s)
    | _ => none
  | .buildSlice _ _ parts => match s.evs (parts.toList.map (·.2)) with
    | some xs => some (frzL (ownsOfs xs) s)
    | none => none
  | _ => none
def exq {R : Type} (P : Program) (tb : Tb) (s : St) (o : Oper) (K : St → Option R) : Option R :=
  match areq P tb s o.op with
  | some q => q.K fun d => match aex P s d o with
    | some (_, s') => K s'
    | none => none
  | none => none
def isSomeQ : Option Rq → Bool
  | some _ => true
  | none => false
def ex1 {R : Type} (P : Program) (tb : Tb) (s : St) (o : Oper) (K : St → Option R) : Option R :=
  match sbOp P s o with
  | some s' => K s'
  | none => match mkOp P s o K with
  | some r => r
  | none => match tabOp P s o K with
  | some r => r
  | none => match itOp P s o K with
  | some r => r
  | none => match nilOp P s o with
  | some (b, s') => bif b then K s' else none
  | none => match arrOp P s o with
  | some (b, s') => bif b then K s' else none
  | none => match fixOp P s o with
  | some (b, s') => bif b then K s' else none
  | none => match extOp tb s o K with
  | some r => r
  | none => match subOp P tb s o with
  | some (b, s') => bif b then K s' else none
  | none => bif isSomeQ (areq P tb s o.op) then exq P tb s o K else
    match coer tb s o.op with
    | some s' => exq P tb s' o K
    | none => none
/-- a truth value of a slot, known now -/
def St.know (s : St) (x : Operand) (b : Bool) : St := match x with
  | .tmp t => bif Nat.blt t s.n then { s with fr := (t, .val (.bool b)) :: s.fr } else s
  | _ => s
def dstOf (ops : Array Oper) (j : Nat) : Operand := match ops[j]? with
  | some o => match o.dst with
    | some t => .tmp t
    | none => .const undef
  | none => .const undef
def op1 {R : Type} (P : Program) (tb : Tb) (ops : Array Oper) (s : St) (o : Oper) (K : St → Option R) : Option R :=
  match o.guard with
  | none => ex1 P tb s o K
  | some (j, want) => match guardOf ops s j with
    | none => none
    | some none => match s.add o.dst (.val undef) [] with
      | some s' => K s'
      | none => none
    | some (some b) => bif b then
        (bif want then ex1 P tb (s.know (dstOf ops j) true) o K else match (s.know (dstOf ops j) true).add o.dst (.val undef) [] with
          | some s' => K s'
          | none => none)
      else (bif want then (match (s.know (dstOf ops j) false).add o.dst (.val undef) [] with
          | some s' => K s'
          | none => none) else ex1 P tb (s.know (dstOf ops j) false) o K)
def opsR {R : Type} (P : Program) (tb : Tb) (ops : Array Oper) : List Oper → St → (St → Option R) → Option R
  | [], s, K => K s
  | o :: l, s, K => op1 P tb ops s o fun s' => opsR P tb ops l s' K

section
variable {P : Program} {w₀ : World} {G₀ : Gh} {hp₀ : List (Nat × Box)} {G : Gh} {a : Act} {w : World} {R : Type} {tb : Tb} {s : St}
theorem exq_ok (hT : ∀ e ∈ tb.ents, e.Sound P) (hr : Rel w₀ G₀ hp₀ G s a w) {o : Oper} {K : St → Option R} {x : R} (h : exq P tb s o K = some x) {N : Act → World → Prop} (hN : ∀ s', K s' = some x → ∀ G' a' w', Rel w₀ G₀ hp₀ G' s' a' w' → N a' w') : oDoes P o a w N := by
  unfold exq at h
  split at h
  · rename_i q hq
    obtain ⟨d, h1, h2⟩ := Rq.K_some h
    split at h2
    · rename_i ps s' ha
      exact aex_ok hr ha (areq_ok hT hq h1 ha) (hN s' h2)
    · cases h2
  · cases h
theorem ex1_ok (hT : ∀ e ∈ tb.ents, e.Sound P) (hr : Rel w₀ G₀ hp₀ G s a w) {o : Oper} {K : St → Option R} {x : R} (h : ex1 P tb s o K = some x) {N : Act → World → Prop} (hN : ∀ s', K s' = some x → ∀ G' a' w', Rel w₀ G₀ hp₀ G' s' a' w' → N a' w') : oDoes P o a w N := by
  unfold ex1 at h
  split at h
  · rename_i s' hs
    exact sbOp_ok hr hs (hN s' h)
  split at h
  · rename_i r' hs
    exact mkOp_ok hr hs h hN
  split at h
  · rename_i r' hs
    exact tabOp_ok hr hs h hN
  split at h
  · rename_i r' hs
    exact itOp_ok hr hs h hN
  split at h
  · rename_i b s' hs
    cases b <;> simp only [cond_true, cond_false, reduceCtorEq] at h
    exact nilOp_ok hr hs (hN s' h)
  split at h
  · rename_i b s' hs
    cases b <;> simp only [cond_true, cond_false, reduceCtorEq] at h
    exact arrOp_ok hr hs (hN s' h)
  split at h
  · rename_i b s' hs
    cases b <;> simp only [cond_true, cond_false, reduceCtorEq] at h
    exact fixOp_ok hr hs (hN s' h)
  split at h
  · rename_i r' hs
    exact extOp_ok hT hr hs h hN
  split at h
  · rename_i b s' hs
    cases b <;> simp only [cond_true, cond_false, reduceCtorEq] at h
    exact subOp_ok hr hs (hN s' h)
  cases hq : isSomeQ (areq P tb s o.op) <;> rw [hq] at h <;> simp only [cond_true, cond_false] at h
  · split at h
    · rename_i s' hs
      have : ∃ G', Rel w₀ G₀ hp₀ G' s' a w := by
        unfold coer at hs
        split at hs
        · split at hs
          · split at hs
            · simp only [Option.some.injEq] at hs; subst hs
              obtain ⟨G1, hr1⟩ := hr.frzL
              exact hr1.coB
            · cases hs
          · split at hs
            · split at hs
              · simp only [Option.some.injEq] at hs; subst hs
                obtain ⟨G1, hr1⟩ := hr.frzL
                exact hr1.coB
              · cases hs
            · cases hs
          · cases hs
        · split at hs
          · simp only [Option.some.injEq] at hs; subst hs; exact hr.frzL
          · cases hs
        · split at hs
          · simp only [Option.some.injEq] at hs; subst hs; exact hr.frzL
          · cases hs
        · cases hs
      obtain ⟨G', hr'⟩ := this
      exact exq_ok hT hr' h hN
    · cases h
  · exact exq_ok hT hr h hN
theorem Rel.know (hr : Rel w₀ G₀ hp₀ G s a w) {x : Operand} {b : Bool} (h : a.eval x = .bool b) : Rel w₀ G₀ hp₀ G (s.know x b) a w := by
  unfold St.know
  split
  · rename_i t
    cases hb : Nat.blt t s.n
    · exact hr
    · refine ⟨hr.defers, hr.size, fun i y hy => ?_, hr.fresh, hr.fin⟩
      simp only [cond_true, look] at hy
      cases hq : Nat.beq t i
      · rw [hq] at hy; exact hr.frame i y hy
      · rw [hq] at hy; simp only [cond_true, Option.some.injEq] at hy; subst hy
        have := Nat.eq_of_beq_eq_true hq; subst this
        have hlt : t < a.tmps.size := by rw [hr.size]; exact Nat.lt_of_lt_of_le (Nat.lt_succ_self t) (Nat.le_of_ble_eq_true hb)
        refine ⟨a.tmps[t], by simp [hlt], ?_⟩
        have h : a.tmps.getD t undef = .bool b := h
        simp only [Array.getD, hlt, dif_pos] at h
        exact h
  · exact hr
omit [LC] in
theorem yielded_dst {ops : Array Oper} {j : Nat} {b : Bool} (h : yielded ops a.tmps j = some b) : a.eval (dstOf ops j) = .bool b := by
  unfold dstOf
  unfold yielded at h
  cases ho : ops[j]? with
  | none => rw [ho] at h; simp at h
  | some o =>
    rw [ho] at h
    cases hd : o.dst with
    | none => simp [hd] at h
    | some t =>
      simp only [hd, Option.bind_some] at h ⊢
      show a.tmps.getD t undef = _
      rw [Array.getD_eq_getD_getElem?]
      cases hv : a.tmps[t]? with
      | none => rw [hv] at h; simp at h
      | some v =>
        rw [hv] at h
        simp only [Option.getD_some] at h ⊢
        split at h
        · rename_i e; simp only [Option.some.injEq] at h; subst h; exact Option.some.inj e
        · cases h
theorem Rel.skip (hr : Rel w₀ G₀ hp₀ G s a w) {dst : Option Tmp} {s' : St} (h : s.add dst (.val undef) [] = some s') : Rel w₀ G₀ hp₀ G s' (a.put dst undef) w := aval_rel hr h rfl
theorem op1_ok (hT : ∀ e ∈ tb.ents, e.Sound P) (hr : Rel w₀ G₀ hp₀ G s a w) {ops : Array Oper} {i : Nat} {o : Oper} (ho : ops[i]? = some o) {K : St → Option R} {x : R} (h : op1 P tb ops s o K = some x) {N : Act → World → Prop} (hN : ∀ s', K s' = some x → ∀ G' a' w', Rel w₀ G₀ hp₀ G' s' a' w' → N a' w') : dOp P ops i N a w := by
  have skip : ∀ {s : St}, Rel w₀ G₀ hp₀ G s a w → (match s.add o.dst (.val undef) [] with | some s' => K s' | none => none) = some x → ¬ Region.wanted o (yielded ops a.tmps) = true → dOp P ops i N a w := fun hr h hw => by
    split at h
    · rename_i s' hs
      exact dOp_skip ho hw (hN s' h _ _ _ (hr.skip hs))
    · cases h
  unfold op1 at h
  split at h
  · rename_i hg
    exact dOp_of ho (by simp [Region.wanted, hg]) (ex1_ok hT hr h hN)
  · rename_i j want hg
    split at h
    · cases h
    · rename_i hgo
      have hy := guardOf_ok hr hgo
      exact skip hr h (by simp [Region.wanted, hg, hy])
    · rename_i b hgo
      have hy := guardOf_ok hr hgo
      have hk := hr.know (yielded_dst hy)
      cases b <;> cases want <;> simp only [cond_true, cond_false] at h
      · exact dOp_of ho (by simp [Region.wanted, hg, hy]) (ex1_ok hT hk h hN)
      · exact skip hk h (by simp [Region.wanted, hg, hy])
      · exact skip hk h (by simp [Region.wanted, hg, hy])
      · exact dOp_of ho (by simp [Region.wanted, hg, hy]) (ex1_ok hT hk h hN)
theorem opsR_ok (hT : ∀ e ∈ tb.ents, e.Sound P) {ops : Array Oper} {K : St → Option R} {x : R} {N : Act → World → Prop} (hN : ∀ s', K s' = some x → ∀ G' a' w', Rel w₀ G₀ hp₀ G' s' a' w' → N a' w') :
    ∀ (l : List Oper) (i : Nat) (s : St) (G : Gh) (a : Act) (w : World), (∀ j, j < l.length → ops[i + j]? = l[j]?) → opsR P tb ops l s K = some x → Rel w₀ G₀ hp₀ G s a w → dOps P ops N (List.range' i l.length) a w
  | [], i, s, G, a, w, _, h, hr => hN s h G a w hr
  | o :: l, i, s, G, a, w, hl, h, hr => by
    simp only [List.length_cons, List.range'_succ, dOps]
    exact op1_ok hT hr (by have := hl 0 (by simp); simpa using this) h (fun s' h' G' a' w' hr' => opsR_ok hT hN l (i + 1) s' G' a' w' (fun j hj => by have := hl (j + 1) (by simp; omega); simpa [Nat.add_assoc, Nat.add_comm 1 j] using this) h' hr')
end
end Go.Sym
/- A region that draws its order, with what is emitted. -/
namespace Go.Sym
open Go.RowKit
variable [LC]

def lookK : List (Nat × Bool) → Nat → Option Bool
  | [], _ => none
  | (k, v) :: r, i => bif Nat.beq k i then some v else lookK r i
def rsIx (t : Nat) : List HR → Nat → Option Nat
  | [], _ => none
  | r :: rs, j => bif Nat.beq r.dst t then some j else rsIx t rs (j + 1)
def knPick (pred : List Nat) (Rs : List HR) (kn : List (Nat × Bool)) (op : Op) : Option Bool :=
  match op with
  | .pick (.tmp c) _ _ => match rsIx c Rs 0 with
    | some j => bif memN pred j then lookK kn j else none
    | none => none
  | _ => none
def areqK (P : Program) (tb : Tb) (t : St) (pred : List Nat) (Rs : List HR) (kn : List (Nat × Bool)) (op : Op) : Option Rq :=
  match knPick pred Rs kn op with
  | some d => some (.tot (.b d))
  | none => areq P tb t op
def exH {R : Type} (P : Program) (tb : Tb) (t : St) (pred : List Nat) (Rs : List HR) (kn : List (Nat × Bool)) (o : Oper) (K : AV → List (Nat × Box) → Option R) : Option R :=
  match areqK P tb t pred Rs kn o.op with
  | some q => q.K fun d => match aadd P t d o with
    | some (_, v, new) => K v new
    | none => none
  | none => none
def isBool : AV → Bool
  | .bool _ => true
  | _ => false
def addK (pred : List Nat) (Rs : List HR) (j : Nat) (d : Bool) (kn : List (Nat × Bool)) : List (Nat × Bool) := match Rs[j]? with
  | some r => bif memN pred j && isBool r.v then (j, d) :: kn else kn
  | none => kn
def opH {R : Type} (P : Program) (tb : Tb) (ops : Array Oper) (t : St) (pred : List Nat) (Rs : List HR) (kn : List (Nat × Bool)) (o : Oper) (K : AV → List (Nat × Box) → List (Nat × Bool) → Option R) : Option R :=
  match o.guard with
  | none => exH P tb t pred Rs kn o fun v new => K v new kn
  | some (j, want) => match guardOf ops t j with
    | none => none
    | some none => K (.val undef) [] kn
    | some (some b) => match (bif memN pred j then lookK kn j else none) with
      | some d => bif d == want then (exH P tb t pred Rs kn o fun v new => K v new kn) else K (.val undef) [] kn
      | none => bif b then (bif want then (exH P tb t pred Rs (addK pred Rs j true kn) o fun v new => K v new (addK pred Rs j true kn)) else K (.val undef) [] (addK pred Rs j true kn))
        else (bif want then K (.val undef) [] (addK pred Rs j false kn) else (exH P tb t pred Rs (addK pred Rs j false kn) o fun v new => K v new (addK pred Rs j false kn)))
def headR {R : Type} (P : Program) (tb : Tb) (ops : Array Oper) (s : St) (K : List HR → List (Nat × Bool) → Option R) : List Oper → Nat → List HR → List (Nat × Bool) → Option R
  | [], _, Rs, kn => K Rs kn
  | o :: l, i, Rs, kn => match o.dst, predsOf Rs o.after.toList with
    | some d, some pred => bif Nat.blt d s.n && noRange (s.nx + 32 * d) s.hp && freshDst d Rs && readsFine pred (readsOf ops o) Rs 0 && writesFine ops d pred i then
        opH P tb ops (addSel pred Rs 0 s) pred Rs kn o fun v new kn' => headR P tb ops s K l (i + 1) (Rs ++ [⟨d, v, new, pred⟩]) kn'
      else none
    | _, _ => none
/-- where the tail begins -/
def chainStart : List Oper → Nat → Nat
  | [], n => n
  | o :: l, n => bif Nat.ble 2 n && waitsOn o (n - 2) then chainStart l (n - 1) else n - 1
def findTail (ops : Array Oper) : List Oper → Nat → Nat
  | [], n => n
  | o :: l, n => bif reachAll ops o n then n else findTail ops l (n + 1)
def headLen (ops : Array Oper) : Nat := findTail ops (ops.toList.drop (chainStart ops.toList.reverse ops.toList.length)) (chainStart ops.toList.reverse ops.toList.length)
/-- what is known of guards -/
def knows (Rs : List HR) (kn : List (Nat × Bool)) : List (Nat × Bool) → St → St
  | [], s => s
  | (j, _) :: l, s => match lookK kn j, Rs[j]? with
    | some d, some r => (knows Rs kn l s).know (.tmp r.dst) d
    | _, _ => knows Rs kn l s
def drawR {R : Type} (P : Program) (tb : Tb) (ops : Array Oper) (s : St) (K : St → Option R) : Option R :=
  bif edgesFine ops.toList 0 && tailFine ops (headLen ops) && Nat.ble (headLen ops) ops.toList.length then
    headR P tb ops s (fun Rs kn => opsR P tb ops (ops.toList.drop (headLen ops)) (knows Rs kn kn (addAll Rs s)) K) (ops.toList.take (headLen ops)) 0 [] []
  else none

section
variable {P : Program} {w₀ : World} {G₀ : Gh} {hp₀ : List (Nat × Box)} {G : Gh} {a : Act} {w : World} {R : Type} {tb : Tb} {s : St}
def KnOk (Rs : List HR) (kn : List (Nat × Bool)) : Prop := ∀ j d, lookK kn j = some d → ∃ r, Rs[j]? = some r ∧ r.v = .bool d
omit [LC] in
theorem addK_ok {pred : List Nat} {Rs : List HR} {j : Nat} {d : Bool} {kn : List (Nat × Bool)} (hk : KnOk Rs kn) (h : ∀ r, Rs[j]? = some r → memN pred j = true → isBool r.v = true → r.v = .bool d) : KnOk Rs (addK pred Rs j d kn) := by
  unfold addK
  split
  · rename_i r hr
    cases hb : memN pred j && isBool r.v
    · exact hk
    · simp only [Bool.and_eq_true] at hb
      intro j' d' h'
      simp only [cond_true, lookK] at h'
      cases hq : Nat.beq j j'
      · rw [hq] at h'; exact hk j' d' h'
      · rw [hq] at h'; simp only [cond_true, Option.some.injEq] at h'; subst h'
        have := Nat.eq_of_beq_eq_true hq; subst this
        exact ⟨r, hr, h r hr hb.1 hb.2⟩
  · exact hk
omit [LC] in
theorem rsIx_spec {t : Nat} : ∀ {rs : List HR} {j0 j : Nat}, rsIx t rs j0 = some j → ∃ k r, j = j0 + k ∧ rs[k]? = some r ∧ r.dst = t
  | [], j0, j, h => by cases h
  | r :: rs, j0, j, h => by
    simp only [rsIx] at h
    cases hq : Nat.beq r.dst t
    · rw [hq] at h
      obtain ⟨k, r', h1, h2, h3⟩ := rsIx_spec h
      exact ⟨k + 1, r', by omega, by simpa using h2, h3⟩
    · rw [hq] at h; simp only [cond_true, Option.some.injEq] at h
      exact ⟨0, r, by omega, by simp, Nat.eq_of_beq_eq_true hq⟩
theorem exH_ok (hT : ∀ e ∈ tb.ents, e.Sound P) {t : St} {pred : List Nat} {Rs : List HR} {kn : List (Nat × Bool)} {o : Oper} {K : AV → List (Nat × Box) → Option R} {x : R} (hkn : KnOk Rs kn) (hv : ∀ j r, memN pred j = true → Rs[j]? = some r → look t.fr r.dst = some r.v)
    (h : exH P tb t pred Rs kn o K = some x) : ∃ ps d v new, aadd P t d o = some (ps, v, new) ∧ Alls ps ∧ K v new = some x := by
  unfold exH at h
  split at h
  · rename_i q hq
    obtain ⟨d, h1, h2⟩ := Rq.K_some h
    split at h2
    · rename_i ps v new ha
      refine ⟨ps, d, v, new, ha, ?_, h2⟩
      unfold areqK at hq
      split at hq
      · rename_i d' hd
        simp only [Option.some.injEq] at hq; subst hq
        have h1 : d = .b d' := h1
        subst h1
        unfold knPick at hd
        split at hd
        · rename_i c y z hop
          split at hd
          · rename_i j hj
            obtain ⟨k, r, rfl, i1, i2⟩ := rsIx_spec hj
            rw [Nat.zero_add] at hd
            cases hm : memN pred k <;> rw [hm] at hd <;> simp only [cond_true, cond_false, reduceCtorEq] at hd
            obtain ⟨r', j1, j2⟩ := hkn k d' hd
            rw [i1] at j1; have := Option.some.inj j1; subst this
            have hl := hv k r hm i1
            rw [i2, j2] at hl
            unfold aadd at ha
            rw [hop] at ha
            have hev : t.ev (.tmp c) = some (.bool d') := hl
            simp only [aval, hev] at ha
            split at ha
            · rename_i ps1 v1 e
              simp only [Option.some.injEq, Prod.mk.injEq] at ha; obtain ⟨rfl, _, _⟩ := ha
              split at e
              · simp only [Option.some.injEq, Prod.mk.injEq] at e; obtain ⟨rfl, _⟩ := e
                exact ⟨trivial, trivial⟩
              · cases e
            · unfold anew at ha
              rw [hop] at ha
              cases ha
          · cases hd
        · cases hd
      · exact areq_add hT hq h1 ha
    · cases h2
  · cases h
theorem opH_ok (hT : ∀ e ∈ tb.ents, e.Sound P) {ops : Array Oper} {t : St} {pred : List Nat} {Rs : List HR} {kn : List (Nat × Bool)} {o : Oper} {K : AV → List (Nat × Box) → List (Nat × Bool) → Option R} {x : R} (hkn : KnOk Rs kn)
    (hv : ∀ j r, memN pred j = true → Rs[j]? = some r → look t.fr r.dst = some r.v) (hd : ∀ (j : Nat) (r : HR), memN pred j = true → Rs[j]? = some r → ∃ oj : Oper, ops[j]? = some oj ∧ oj.dst = some r.dst)
    (h : opH P tb ops t pred Rs kn o K = some x) : ∃ ps, ∃ c : Dec, ∃ v new kn', astepH P ops t c o = some (ps, v, new) ∧ Alls ps ∧ KnOk Rs kn' ∧ K v new kn' = some x := by
  unfold opH at h
  unfold astepH
  split at h
  · rename_i hg
    obtain ⟨ps, d, v, new, h1, h2, h3⟩ := exH_ok hT hkn hv h
    exact ⟨ps, (false, d), v, new, kn, by rw [hg]; exact h1, h2, hkn, h3⟩
  · rename_i j want hg
    split at h
    · cases h
    · rename_i hgo
      exact ⟨[], (false, .none), _, _, kn, by simp [hg, hgo], trivial, hkn, h⟩
    · rename_i b hgo
      have hb : ∀ r, Rs[j]? = some r → memN pred j = true → isBool r.v = true → r.v = .bool b := fun r hr hm hi => by
        obtain ⟨oj, k1, k2⟩ := hd j r hm hr
        have hl := hv j r hm hr
        unfold guardOf at hgo
        simp only [k1, k2, hl] at hgo
        cases hrv : r.v <;> rw [hrv] at hi <;> simp only [isBool, Bool.false_eq_true] at hi
        rw [hrv] at hgo
        simp only [Option.some.injEq] at hgo; subst hgo; rfl
      split at h
      · rename_i d hkd
        cases hm : memN pred j <;> rw [hm] at hkd <;> simp only [cond_true, cond_false, reduceCtorEq] at hkd
        obtain ⟨r, i1, i2⟩ := hkn j d hkd
        have hbd : b = d := by
          have := hb r i1 hm (by rw [i2]; rfl)
          rw [i2] at this; simpa using this.symm
        cases hw : d == want <;> rw [hw] at h <;> simp only [cond_true, cond_false] at h
        · exact ⟨[b = d], (d, .none), _, _, kn, by simp [hg, hgo, hw], ⟨hbd, trivial⟩, hkn, h⟩
        · obtain ⟨ps, d', v, new, h1, h2, h3⟩ := exH_ok hT hkn hv h
          exact ⟨(b = d) :: ps, (d, d'), v, new, kn, by simp [hg, hgo, hw, h1], ⟨hbd, h2⟩, hkn, h3⟩
      · have hkn' : ∀ d, b = d → KnOk Rs (addK pred Rs j d kn) := fun d e => addK_ok hkn (by subst e; exact hb)
        cases b <;> cases want <;> simp only [cond_true, cond_false] at h
        · obtain ⟨ps, d', v, new, h1, h2, h3⟩ := exH_ok hT (hkn' false rfl) hv h
          exact ⟨(false = false) :: ps, (false, d'), v, new, _, by simp [hg, hgo, h1], ⟨rfl, h2⟩, hkn' false rfl, h3⟩
        · exact ⟨[false = false], (false, .none), _, _, _, by simp [hg, hgo], ⟨rfl, trivial⟩, hkn' false rfl, h⟩
        · exact ⟨[true = true], (true, .none), _, _, _, by simp [hg, hgo], ⟨rfl, trivial⟩, hkn' true rfl, h⟩
        · obtain ⟨ps, d', v, new, h1, h2, h3⟩ := exH_ok hT (hkn' true rfl) hv h
          exact ⟨(true = true) :: ps, (true, d'), v, new, _, by simp [hg, hgo, h1], ⟨rfl, h2⟩, hkn' true rfl, h3⟩
omit [LC] in
theorem addSel_out {sel : List Nat} {d : Nat} : ∀ {rs : List HR} {j : Nat} {t : St}, (∀ r ∈ rs, r.dst ≠ d) → look (addSel sel rs j t).fr d = look t.fr d
  | [], _, _, _ => rfl
  | r :: rs, j, t, h => by
    simp only [addSel]
    rw [addSel_out (fun r' hr' => h r' (List.mem_cons_of_mem _ hr'))]
    cases memN sel j
    · rfl
    · simp only [cond_true, St.addR, look]
      have := h r List.mem_cons_self
      cases hq : Nat.beq r.dst d
      · rfl
      · exact absurd (Nat.eq_of_beq_eq_true hq) this
omit [LC] in
theorem addSel_in {sel : List Nat} : ∀ {rs : List HR} {j k : Nat} {t : St} {r : HR}, rs[k]? = some r → memN sel (j + k) = true → (∀ k' r', k < k' → rs[k']? = some r' → r'.dst ≠ r.dst) → look (addSel sel rs j t).fr r.dst = some r.v
  | [], _, _, _, _, h, _, _ => by simp at h
  | r0 :: rs, j, 0, t, r, h, hm, hd => by
    simp only [List.getElem?_cons_zero, Option.some.injEq] at h; subst h
    simp only [addSel]
    rw [addSel_out (fun r' hr' => by
      obtain ⟨k, hk⟩ := List.getElem?_of_mem hr'
      exact hd (k + 1) r' (by omega) (by simpa using hk))]
    rw [Nat.add_zero] at hm
    rw [hm]
    simp [St.addR, look]
  | r0 :: rs, j, k + 1, t, r, h, hm, hd => by
    simp only [addSel]
    exact addSel_in (k := k) (by simpa using h) (by rw [show j + 1 + k = j + (k + 1) by omega]; exact hm) (fun k' r' hk hr' => hd (k' + 1) r' (by omega) (by simpa using hr'))
omit [LC] in
theorem addAll_out {d : Nat} : ∀ {rs : List HR} {t : St}, (∀ r ∈ rs, r.dst ≠ d) → look (addAll rs t).fr d = look t.fr d
  | [], _, _ => rfl
  | r :: rs, t, h => by
    simp only [addAll]
    rw [addAll_out (fun r' hr' => h r' (List.mem_cons_of_mem _ hr'))]
    show (bif Nat.beq r.dst d then some r.v else look t.fr d) = _
    cases hb : Nat.beq r.dst d
    · rfl
    · exact absurd (Nat.eq_of_beq_eq_true hb) (h r List.mem_cons_self)
omit [LC] in
theorem addAll_in : ∀ {rs : List HR} {k : Nat} {t : St} {r : HR}, rs[k]? = some r → (∀ k' r', k < k' → rs[k']? = some r' → r'.dst ≠ r.dst) → look (addAll rs t).fr r.dst = some r.v
  | [], _, _, _, h, _ => by simp at h
  | r0 :: rs, 0, t, r, h, hd => by
    simp only [List.getElem?_cons_zero, Option.some.injEq] at h; subst h
    simp only [addAll]
    rw [addAll_out (fun r' hr' => by
      obtain ⟨k, hk⟩ := List.getElem?_of_mem hr'
      exact hd (k + 1) r' (by omega) (by simpa using hk))]
    show (bif Nat.beq r0.dst r0.dst then some r0.v else look t.fr r0.dst) = _
    simp
  | r0 :: rs, k + 1, t, r, h, hd => by
    simp only [addAll]
    exact addAll_in (k := k) (by simpa using h) (fun k' r' hk hr' => hd (k' + 1) r' (by omega) (by simpa using hr'))
theorem knows_ok {Rs : List HR} (hdis : ∀ (k k' : Nat) (r r' : HR), k < k' → Rs[k]? = some r → Rs[k']? = some r' → r'.dst ≠ r.dst) (hr : Rel w₀ G₀ hp₀ G (addAll Rs s) a w) {kn : List (Nat × Bool)} (hkn : KnOk Rs kn) : ∀ {l : List (Nat × Bool)}, Rel w₀ G₀ hp₀ G (knows Rs kn l (addAll Rs s)) a w
  | [] => hr
  | (j, _) :: l => by
    have ih := knows_ok hdis hr hkn (l := l)
    unfold knows
    split
    · rename_i d r h0 h1
      obtain ⟨r', i1, h2⟩ := hkn j d h0
      rw [h1] at i1; have := Option.some.inj i1; subst this
      refine ih.know ?_
      obtain ⟨v, v1, v2⟩ := hr.frame r.dst _ (addAll_in h1 (fun k' r' hk hr' => hdis j k' r r' hk h1 hr'))
      rw [h2] at v2
      have v2 : v = .bool d := v2
      subst v2
      show a.tmps.getD r.dst undef = _
      rw [Array.getD_eq_getD_getElem?, v1]; rfl
    · exact ih
theorem headR_ok (hT : ∀ e ∈ tb.ents, e.Sound P) {ops : Array Oper} {K : List HR → List (Nat × Bool) → Option R} {x : R} : ∀ (l : List Oper) (i : Nat) (Rs : List HR) (kn : List (Nat × Bool)), (∀ j, j < l.length → ops[i + j]? = l[j]?) → Rs.length = i → KnOk Rs kn →
    (∀ j o, j < i → ops[j]? = some o → HOk P ops s Rs j o) → headR P tb ops s K l i Rs kn = some x → ∃ Rs' kn', K Rs' kn' = some x ∧ KnOk Rs' kn' ∧ Rs'.length = i + l.length ∧ ∀ j o, j < i + l.length → ops[j]? = some o → HOk P ops s Rs' j o
  | [], i, Rs, kn, _, hlen, hkn, hH, h => ⟨Rs, kn, h, hkn, hlen, hH⟩
  | o :: l, i, Rs, kn, hl, hlen, hkn, hH, h => by
    have ho : ops[i]? = some o := by have := hl 0 (by simp); simpa using this
    have hops : ∀ j, j < i → ∃ oj, ops[j]? = some oj := fun j hj => by
      have : i < ops.size := (Array.getElem?_eq_some_iff.1 ho).1
      exact ⟨ops[j], by simp [show j < ops.size by omega]⟩
    simp only [headR] at h
    split at h
    · rename_i d pred hd hp
      cases hb : Nat.blt d s.n && noRange (s.nx + 32 * d) s.hp && freshDst d Rs && readsFine pred (readsOf ops o) Rs 0 && writesFine ops d pred i <;> rw [hb] at h <;> simp only [cond_true, cond_false, reduceCtorEq] at h
      simp only [Bool.and_eq_true] at hb
      obtain ⟨⟨⟨⟨b1, b2⟩, b3⟩, b4⟩, b5⟩ := hb
      have hdst : ∀ (j : Nat) (r : HR), Rs[j]? = some r → ∃ oj : Oper, ops[j]? = some oj ∧ oj.dst = some r.dst := fun j r hr => by
        have hj : j < i := by have := (List.getElem?_eq_some_iff.1 hr).1; omega
        obtain ⟨oj, hoj⟩ := hops j hj
        obtain ⟨r', _, _, k1, k2, _⟩ := hH j oj hj hoj
        rw [hr] at k1; have := Option.some.inj k1; subst this
        exact ⟨oj, hoj, k2⟩
      have hdis : ∀ (k k' : Nat) (r r' : HR), k < k' → Rs[k]? = some r → Rs[k']? = some r' → r'.dst ≠ r.dst := fun k k' r r' hkk hr hr' e => by
        have hk' : k' < i := by have := (List.getElem?_eq_some_iff.1 hr').1; omega
        obtain ⟨oj, hoj⟩ := hops k' hk'
        obtain ⟨r2, _, _, k1, _, _, _, _, k6, _⟩ := hH k' oj hk' hoj
        rw [hr'] at k1; have := Option.some.inj k1; subst this
        exact freshDst_iff.1 k6 r (List.mem_of_getElem? (i := k) (by rw [List.getElem?_take, if_pos hkk]; exact hr)) e.symm
      obtain ⟨ps, c, v, new, kn', h1, h2, h3, h4⟩ := opH_ok hT hkn (fun j r hm hr => addSel_in (k := j) hr (by rw [Nat.zero_add]; exact hm) (fun k' r' hk hr' => hdis j k' r r' hk hr hr')) (fun j r _ hr => hdst j r hr) h
      obtain ⟨Rs', kn2, k1, kk, k2, k3⟩ := headR_ok hT l (i + 1) (Rs ++ [⟨d, v, new, pred⟩]) kn' (fun j hj => by have := hl (j + 1) (by simp; omega); simpa [Nat.add_assoc, Nat.add_comm 1 j] using this) (by simp [hlen])
        (fun j d' hj => by
          obtain ⟨r, i1, i2⟩ := h3 j d' hj
          exact ⟨r, by rw [List.getElem?_append_left (List.getElem?_eq_some_iff.1 i1).1]; exact i1, i2⟩)
        (fun j oj hj hoj => by
          by_cases hji : j < i
          · obtain ⟨r, ps', c', j1, j2, j3, j4, j5, j6, j7, j8, j9, j10⟩ := hH j oj hji hoj
            have ht : (Rs ++ [(⟨d, v, new, pred⟩ : HR)]).take j = Rs.take j := by rw [List.take_append_of_le_length (by omega)]
            exact ⟨r, ps', c', by rw [List.getElem?_append_left (by omega)]; exact j1, j2, j3, j4, by rw [ht]; exact j5, by rw [ht]; exact j6, by rw [ht]; exact j7, j8, by rw [ht]; exact j9, j10⟩
          · have : j = i := by omega
            subst this
            rw [ho] at hoj; have := Option.some.inj hoj; subst this
            have ht : (Rs ++ [(⟨d, v, new, pred⟩ : HR)]).take j = Rs := by rw [← hlen, List.take_left]
            exact ⟨⟨d, v, new, pred⟩, ps, c, by rw [← hlen]; simp, hd, Nat.lt_of_lt_of_le (Nat.lt_succ_self d) (Nat.le_of_ble_eq_true b1), b2, by rw [ht]; exact hp, by rw [ht]; exact b3, by rw [ht]; exact b4, b5, by rw [ht]; exact h1, h2⟩)
        h4
      exact ⟨Rs', kn2, k1, kk, by rw [k2, List.length_cons]; omega, fun j oj hj => k3 j oj (by rw [List.length_cons] at hj; omega)⟩
    · cases h
theorem tail_ok (hT : ∀ e ∈ tb.ents, e.Sound P) {ops : Array Oper} {K : St → Option R} {x : R} {n : Nat} {N : Act → World → Prop} (he : edgesFine ops.toList 0 = true) (ht : tailFine ops n = true) (hN : ∀ s', K s' = some x → ∀ G' a' w', Rel w₀ G₀ hp₀ G' s' a' w' → N a' w') :
    ∀ (l : List Oper) (m : Nat), n ≤ m → ops.toList.drop m = l → m ≤ ops.size → ∀ (s : St) (G : Gh) (a : Act) (w : World) (listed : Array Bool), opsR P tb ops l s K = some x → Rel w₀ G₀ hp₀ G s a w → Upto ops m listed → dAny P ops N (ops.size - m) listed a w
  | [], m, hn, hl, hm, s, G, a, w, listed, h, hr, hu => by
    have : m = ops.size := by
      have := congrArg List.length hl
      simp at this; omega
    subst this
    exact tail_end hu (hN s h G a w hr)
  | o :: l, m, hn, hl, hm, s, G, a, w, listed, h, hr, hu => by
    have hlt : m < ops.size := by
      have := congrArg List.length hl
      simp at this; omega
    have ho : ops[m]? = some o := by
      have := congrArg (fun l => l[0]?) hl
      simpa using this
    refine tail_one he ht hn hlt hu (op1_ok hT hr ho h (fun s' h' G' a' w' hr' listed' hu' => ?_))
    exact tail_ok hT he ht hN l (m + 1) (by omega) (by rw [← List.drop_drop, hl]; rfl) (by omega) s' G' a' w' listed' h' hr' hu'
theorem drawR_ok (hT : ∀ e ∈ tb.ents, e.Sound P) (hm : P.follows .mixedOrders = true) {ops : Array Oper} {K : St → Option R} {x : R} (h : drawR P tb ops s K = some x) {N : Act → World → Prop} (hN : ∀ s', K s' = some x → ∀ G' a' w', Rel w₀ G₀ hp₀ G' s' a' w' → N a' w')
    (hr : Rel w₀ G₀ hp₀ G s a w) (id : Nat) (b : Frame) (k : List Item) (cs : List Frame) (hk : b.kind = .normal) :
    ∃ a' w', N a' w' ∧ Steps P (lone (b.atR a (.code (.region id ops true) :: k)) cs w) (lone (b.atR a' k) cs w') := by
  unfold drawR at h
  generalize headLen ops = n at h
  cases hb : edgesFine ops.toList 0 && tailFine ops n && Nat.ble n ops.toList.length <;> rw [hb] at h <;> simp only [cond_true, cond_false, reduceCtorEq] at h
  simp only [Bool.and_eq_true] at hb
  obtain ⟨⟨b1, b2⟩, b3⟩ := hb
  have hn : n ≤ ops.size := by have := Nat.le_of_ble_eq_true b3; simpa using this
  have hlen : (ops.toList.take n).length = n := by simp; omega
  obtain ⟨Rs, kn, k1, kk, k2, k3⟩ := headR_ok hT (ops.toList.take n) 0 [] [] (fun j hj => by
    rw [hlen] at hj
    rw [List.getElem?_take, if_pos hj, Nat.zero_add]; simp) rfl (fun j d h => by cases h) (fun j o hj => by omega) h
  rw [Nat.zero_add, hlen] at k2 k3
  have hdis : ∀ (k k' : Nat) (r r' : HR), k < k' → Rs[k]? = some r → Rs[k']? = some r' → r'.dst ≠ r.dst := fun k k' r r' hkk hr hr' e => by
    have hk' : k' < n := by have := (List.getElem?_eq_some_iff.1 hr').1; omega
    obtain ⟨oj, hoj⟩ : ∃ oj, ops[k']? = some oj := ⟨ops[k'], by simp [show k' < ops.size by omega]⟩
    obtain ⟨r2, _, _, j1, _, _, _, _, j6, _⟩ := k3 k' oj hk' hoj
    rw [hr'] at j1; have := Option.some.inj j1; subst this
    exact freshDst_iff.1 j6 r (List.mem_of_getElem? (i := k) (by rw [List.getElem?_take, if_pos hkk]; exact hr)) e.symm
  exact draw_ok hn b1 b2 hm k2 k3 (fun G a w listed hr' hu => tail_ok hT b1 b2 hN _ n (Nat.le_refl _) rfl hn _ G a w listed k1 (knows_ok hdis hr' kk) hu) hr id b k cs hk
end
end Go.Sym
/- A region that draws its order and holds operations that change own memory, boxes that are made within it too. -/
namespace Go.Sym
open Go.RowKit
variable [LC]

/-- what an operation that changes own memory does: slots, boxes -/
structure Md : Type where
  f : List (Nat × AV)
  h : List (Nat × Box)
def St.addM (s : St) (m : Md) : St := { s with fr := m.f ++ s.fr, hp := m.h ++ s.hp }
/-- boxes that are not to be looked at -/
def hideHp (K : List Nat) : List (Nat × Box) → List (Nat × Box)
  | [] => []
  | (n, b) :: r => bif memN K n then hideHp K r else (n, b) :: hideHp K r
def St.hide (s : St) (K : List Nat) : St := { s with hp := hideHp K s.hp }
omit [LC] in
theorem look_hide {K : List Nat} : ∀ {l : List (Nat × Box)} {n : Nat} {b : Box}, look (hideHp K l) n = some b → look l n = some b ∧ n ∉ K
  | [], n, b, h => by cases h
  | (k, v) :: r, n, b, h => by
    simp only [hideHp] at h
    cases hm : memN K k <;> rw [hm] at h <;> simp only [cond_true, cond_false] at h
    · simp only [look] at h ⊢
      cases hb : Nat.beq k n <;> rw [hb] at h <;> simp only [cond_true, cond_false] at h ⊢
      · exact look_hide h
      · refine ⟨h, fun hn => ?_⟩
        rw [← Nat.eq_of_beq_eq_true hb] at hn
        rw [memN_iff.2 hn] at hm; cases hm
    · obtain ⟨h1, h2⟩ := look_hide h
      refine ⟨?_, h2⟩
      simp only [look]
      cases hb : Nat.beq k n
      · exact h1
      · exfalso; apply h2; rw [← Nat.eq_of_beq_eq_true hb]; exact memN_iff.1 hm

/-- a call that sees own memory, as what it adds -/
def memEf (s : St) (q : Prop) (ys : List AV) (names : List (Nat × Nat)) (xs : List AV) (hp : List (Nat × Box)) (r : AV) (hp' : List (Nat × Box)) (t : Nat) : Option (List Prop × Md) :=
  bif distinctOld names && distinctNew names && noRange (s.nx + 32 * t) s.hp && Nat.blt t s.n then
    match viewHp (rho names) s.hp names, vws false [] (AV.rens (rho names) ys) xs with
    | some hpv, some ps1 => match vwHp hpv hp with
      | some ps2 => some (q :: (ps1 ++ ps2), ⟨[(t, r.ren (back names hp' (s.nx + 32 * t)))], backHp (back names hp' (s.nx + 32 * t)) hp' ++ deads names⟩)
      | none => none
    | _, _ => none
  else none
omit [LC] in
theorem memEf_call {s : St} {q : Prop} {ys : List AV} {names : List (Nat × Nat)} {xs : List AV} {hp : List (Nat × Box)} {r : AV} {hp' : List (Nat × Box)} {t : Nat} {ps : List Prop} {m : Md} (h : memEf s q ys names xs hp r hp' t = some (ps, m)) : memCall s q ys names xs hp r hp' t = some (ps, s.addM m) := by
  unfold memEf at h
  unfold memCall
  cases hc : distinctOld names && distinctNew names && noRange (s.nx + 32 * t) s.hp && Nat.blt t s.n <;> rw [hc] at h <;> simp only [cond_true, cond_false, reduceCtorEq] at h ⊢
  split at h
  · rename_i hpv ps1 h1 h2
    split at h
    · rename_i ps2 h3
      simp only [Option.some.injEq, Prod.mk.injEq] at h
      obtain ⟨rfl, rfl⟩ := h
      rw [h1, h2]
      simp only [h3, St.addM, List.singleton_append, List.append_assoc]
    · cases h
  · cases h
omit [LC] in
theorem viewHp_sees {ρ : Nat → Option Nat} {hp hp' : List (Nat × Box)} (hhp : ∀ n b, look hp n = some b → look hp' n = some b) : ∀ {l : List (Nat × Nat)} {r : List (Nat × Box)}, viewHp ρ hp l = some r → viewHp ρ hp' l = some r
  | [], _, h => h
  | (m, n) :: l, r, h => by
    simp only [viewHp] at h ⊢
    split at h
    · rename_i b l' h1 h2
      rw [hhp _ _ h1, viewHp_sees hhp h2]; exact h
    · cases h
omit [LC] in
theorem memEf_sees {t s : St} {q : Prop} {ys : List AV} {names : List (Nat × Nat)} {xs : List AV} {hp : List (Nat × Box)} {r : AV} {hp' : List (Nat × Box)} {tt : Nat} {R : List Prop × Md} (hhp : ∀ n b, look t.hp n = some b → look s.hp n = some b) (hroom : noRange (s.nx + 32 * tt) s.hp = true) (hnx : t.nx = s.nx) (hn : t.n = s.n)
    (h : memEf t q ys names xs hp r hp' tt = some R) : memEf s q ys names xs hp r hp' tt = some R := by
  unfold memEf at h ⊢
  cases hc : distinctOld names && distinctNew names && noRange (t.nx + 32 * tt) t.hp && Nat.blt tt t.n <;> rw [hc] at h <;> simp only [cond_true, cond_false, reduceCtorEq] at h
  simp only [Bool.and_eq_true] at hc
  rw [hroom, ← hn, hc.1.1.1, hc.1.1.2, hc.2, ← hnx]
  split at h
  · rename_i hpv ps1 h1 h2
    rw [viewHp_sees hhp h1, h2]
    exact h
  · cases h
def modOp (P : Program) (t : St) (d : D) (o : Oper) : Option (List Prop × Md) :=
  match o.op, o.dst with
  | .store T x y, none => match t.ev x, t.ev y, tSize P T with
    | some (.ptr b off), some v, some n => match look t.hp b with
      | some (.cells cs T') => bif Nat.beq v.cells.length n && AV.ones v.cells && Nat.ble (off + n) cs.length then some ([], ⟨[], [(b, .cells (splice cs off v.cells) T')]⟩) else none
      | _ => none
    | _, _, _ => none
  | .call { callee := .builtin .append, args, argTypes }, some tt => match args.toList, argTypes.toList with
    | [x, y], [ty, ty2] => match t.ev x, t.ev y with
      | some (.own k), some v => match look t.hp k with
        | some (.row τ0 l0 E0) => match aAppend P t d ty ty2 (l0.flatMap τ0.enc) l0.length v with
          | some (ps, .row τ l E) => bif noRange (t.nx + 32 * tt) t.hp && Nat.beq τ.sz τ0.sz && Nat.beq E E0 && Nat.blt tt t.n then some (ps, ⟨[(tt, .own (t.nx + 32 * tt))], [(t.nx + 32 * tt, .row τ l E), (k, .dead)]⟩) else none
          | _ => none
        | _ => none
      | _, _ => none
    | _, _ => none
  | .call { callee := .value g, args, argTypes := _ }, some tt => match t.ev g, t.evs args.toList, d with
    | some (.fn (.func f) [] cap), some ys, .mem names xs hp r hp' => memEf t (Plain P f ∧ CallsTo P f xs hp r hp') (ys ++ cap) names xs hp r hp' tt
    | _, _, _ => none
  | _, _ => none
theorem modOp_aex {P : Program} {t : St} {d : D} {o : Oper} {ps : List Prop} {m : Md} (h : modOp P t d o = some (ps, m)) : aex P t d o = some (ps, t.addM m) := by
  obtain ⟨dst, op, ty, pos, after, guard⟩ := o
  unfold modOp at h
  split at h
  · rename_i T x y ho hd
    simp only at ho hd; subst ho hd
    split at h
    · rename_i b off v n hx hy hn
      split at h
      · rename_i cs T' hb
        cases hc : Nat.beq v.cells.length n && AV.ones v.cells && Nat.ble (off + n) cs.length <;> rw [hc] at h <;> simp only [cond_true, cond_false, reduceCtorEq, Option.some.injEq, Prod.mk.injEq] at h
        obtain ⟨rfl, rfl⟩ := h
        unfold aex
        rw [show aadd P t d ⟨none, .store T x y, ty, pos, after, guard⟩ = none from rfl]
        simp only [amod, hx, hy, hn, hb, hc, cond_true]
        rfl
      · cases h
    · cases h
  · rename_i args argTypes tt ho hd
    simp only at ho hd; subst ho hd
    split at h
    · rename_i x y t1 t2 ha ht
      split at h
      · rename_i k v hx hy
        split at h
        · rename_i τ0 l0 E0 hk
          split at h
          · rename_i ps' τ l E hap
            cases hc : noRange (t.nx + 32 * tt) t.hp && Nat.beq τ.sz τ0.sz && Nat.beq E E0 && Nat.blt tt t.n <;> rw [hc] at h <;> simp only [cond_true, cond_false, reduceCtorEq, Option.some.injEq, Prod.mk.injEq] at h
            obtain ⟨rfl, rfl⟩ := h
            have hadd : aadd P t d ⟨some tt, .call { callee := .builtin .append, args := args, argTypes := argTypes }, ty, pos, after, guard⟩ = none := by
              simp only [aadd, aval, anew, ha, ht, hx, hy]
            unfold aex
            rw [hadd]
            simp only [amod, ha, ht, hx, hy, hk, hap, hc, cond_true]
            rfl
          · cases h
        · cases h
      · cases h
    · cases h
  · rename_i g args argTypes tt ho hd
    simp only at ho hd; subst ho hd
    split at h
    · rename_i f cap ys names xs hp r hp' hg hys
      have hadd : aadd P t (.mem names xs hp r hp') ⟨some tt, .call { callee := .value g, args := args, argTypes := argTypes }, ty, pos, after, guard⟩ = none := by
        simp only [aadd, aval, anew, hg, hys]
      unfold aex
      rw [hadd]
      simp only [amod, hg, hys]
      exact memEf_call h
    · cases h
  · cases h
theorem modOp_sees {P : Program} {t st : St} {d : D} {o : Oper} {R : List Prop × Md} (hs : Sees o t st) (hn : t.n = st.n) (h : modOp P t d o = some R) : modOp P st d o = some R := by
  obtain ⟨dst, op, ty, pos, after, guard⟩ := o
  have hev := hs.ev
  have hhp := hs.hp
  have hroom := hs.room
  have hnx := hs.nx
  simp only at hev hroom
  unfold modOp at h ⊢
  split at h
  · rename_i T x y ho hd
    simp only at ho hd; subst ho hd
    rw [hev x (by simp [Op.operands]), hev y (by simp [Op.operands])] at h
    split at h
    · rename_i b off v n hx hy hn
      split at h
      · rename_i cs T' hb
        simp only [hhp _ _ hb]; exact h
      · cases h
    · cases h
  · rename_i args argTypes tt ho hd
    simp only at ho hd; subst ho hd
    have hm : ∀ z ∈ args.toList, t.ev z = st.ev z := fun z hz => hev z (by simp [Op.operands, Call.operands]; simpa using hz)
    split at h
    · rename_i x y t1 t2 ha ht
      rw [hm x (by rw [ha]; simp), hm y (by rw [ha]; simp)] at h
      split at h
      · rename_i k v hx hy
        split at h
        · rename_i τ0 l0 E0 hk
          simp only [hhp _ _ hk]
          split at h
          · rename_i ps' τ l E hap
            simp only [aAppend_sees hhp hap]
            cases hc : noRange (t.nx + 32 * tt) t.hp && Nat.beq τ.sz τ0.sz && Nat.beq E E0 && Nat.blt tt t.n <;> rw [hc] at h <;> simp only [cond_true, cond_false, reduceCtorEq] at h
            simp only [Bool.and_eq_true] at hc
            rw [hroom tt rfl, ← hn, hc.1.1.2, hc.1.2, hc.2, ← hnx]
            exact h
          · cases h
        · cases h
      · cases h
    · cases h
  · rename_i g args argTypes tt ho hd
    simp only at ho hd; subst ho hd
    have h1 : t.ev g = st.ev g := hev g (by simp [Op.operands, Call.operands])
    have h2 : t.evs args.toList = st.evs args.toList := evs_sees (fun x hx => hev x (by simp [Op.operands, Call.operands]; exact .inr (by simpa using hx)))
    rw [h1, h2] at h
    split at h
    · exact memEf_sees hhp (hroom tt rfl) hnx hn h
    · cases h
  · cases h

/-! lists of what operations add -/
def cat {β : Type} (A : Nat → List (Nat × β)) : List Nat → List (Nat × β) → List (Nat × β)
  | [], b => b
  | i :: L, b => A i ++ cat A L b
omit [LC] in
theorem lookP_append {β : Type} (l r : List (Nat × β)) (n : Nat) : look (l ++ r) n = match look l n with | some b => some b | none => look r n := by
  induction l with
  | nil => rfl
  | cons x l ih =>
    obtain ⟨k, v⟩ := x
    simp only [List.cons_append, look]
    cases Nat.beq k n <;> simp [ih]
omit [LC] in
theorem lookP_mem {β : Type} : ∀ {l : List (Nat × β)} {m : Nat}, look l m ≠ none → ∃ e ∈ l, e.1 = m
  | [], m, h => absurd rfl h
  | (k, v) :: r, m, h => by
    simp only [look] at h
    cases hb : Nat.beq k m
    · rw [hb] at h
      obtain ⟨e, h1, h2⟩ := lookP_mem h
      exact ⟨e, List.mem_cons_of_mem _ h1, h2⟩
    · exact ⟨(k, v), List.mem_cons_self, Nat.eq_of_beq_eq_true hb⟩
omit [LC] in
theorem cat_append {β : Type} (A : Nat → List (Nat × β)) : ∀ (L M : List Nat) (b : List (Nat × β)), cat A (L ++ M) b = cat A L (cat A M b)
  | [], M, b => rfl
  | i :: L, M, b => by simp only [List.cons_append, cat, cat_append A L M b]
omit [LC] in
theorem cat_out {β : Type} {A : Nat → List (Nat × β)} {x : Nat} {b : List (Nat × β)} : ∀ {L : List Nat}, (∀ j ∈ L, look (A j) x = none) → look (cat A L b) x = look b x
  | [], _ => rfl
  | i :: L, h => by
    simp only [cat]
    rw [lookP_append, h i List.mem_cons_self]
    exact cat_out (fun j hj => h j (List.mem_cons_of_mem _ hj))
omit [LC] in
theorem mem_cat {β : Type} {A : Nat → List (Nat × β)} {b : List (Nat × β)} : ∀ {L : List Nat} {e : Nat × β}, e ∈ cat A L b → (∃ j ∈ L, e ∈ A j) ∨ e ∈ b
  | [], e, h => .inr h
  | i :: L, e, h => by
    rcases List.mem_append.1 h with h | h
    · exact .inl ⟨i, List.mem_cons_self, h⟩
    · rcases mem_cat h with ⟨j, h1, h2⟩ | h
      · exact .inl ⟨j, List.mem_cons_of_mem _ h1, h2⟩
      · exact .inr h
/-- an order in which operations may have run, the last one first -/
def Good (pr : Nat → List Nat) : List Nat → Prop
  | [] => True
  | i :: L => i ∉ L ∧ (∀ j ∈ pr i, j ∈ L) ∧ Good pr L
omit [LC] in
theorem Good.closed {pr : Nat → List Nat} : ∀ {L : List Nat}, Good pr L → ∀ i ∈ L, ∀ j ∈ pr i, j ∈ L
  | [], _, i, hi, _, _ => by cases hi
  | k :: L, h, i, hi, j, hj => by
    rcases List.mem_cons.1 hi with rfl | hi
    · exact List.mem_cons_of_mem _ (h.2.1 j hj)
    · exact List.mem_cons_of_mem _ (h.2.2.closed i hi j hj)
omit [LC] in
theorem cat_max {β : Type} {A : Nat → List (Nat × β)} {x : Nat} {b : List (Nat × β)} {pr : Nat → List Nat} : ∀ {L : List Nat}, Good pr L → (∀ i ∈ L, ∀ j ∈ L, i < j → look (A i) x ≠ none → look (A j) x ≠ none → i ∈ pr j) →
    ∀ j ∈ L, look (A j) x ≠ none → (∀ k ∈ L, look (A k) x ≠ none → k ≤ j) → look (cat A L b) x = look (A j) x
  | [], _, _, j, hj, _, _ => by cases hj
  | i :: L, hg, hd, j, hj, hx, hm => by
    simp only [cat]
    rw [lookP_append]
    cases hq : look (A i) x with
    | some v =>
      have hij : i ≤ j := hm i List.mem_cons_self (by rw [hq]; simp)
      rcases Nat.lt_or_eq_of_le hij with h | h
      · exfalso
        have hjL : j ∈ L := by
          rcases List.mem_cons.1 hj with e | e
          · omega
          · exact e
        exact hg.1 (hg.2.2.closed j hjL i (hd i List.mem_cons_self j hj h (by rw [hq]; simp) hx))
      · subst h; rw [hq]
    | none =>
      have hjL : j ∈ L := by
        rcases List.mem_cons.1 hj with e | e
        · subst e; exact absurd hq hx
        · exact e
      exact cat_max hg.2.2 (fun a ha c hc => hd a (List.mem_cons_of_mem _ ha) c (List.mem_cons_of_mem _ hc)) j hjL hx (fun k hk => hm k (List.mem_cons_of_mem _ hk))
omit [LC] in
theorem exists_max (p : Nat → Prop) : ∀ (L : List Nat), (∃ j ∈ L, p j) → ∃ j ∈ L, p j ∧ ∀ k ∈ L, p k → k ≤ j
  | [], h => by obtain ⟨j, hj, _⟩ := h; cases hj
  | i :: L, h => by
    by_cases hL : ∃ j ∈ L, p j
    · obtain ⟨j, hj, pj, hm⟩ := exists_max p L hL
      by_cases hi : p i ∧ j < i
      · exact ⟨i, List.mem_cons_self, hi.1, fun k hk pk => by
          rcases List.mem_cons.1 hk with e | e
          · omega
          · have := hm k e pk; omega⟩
      · exact ⟨j, List.mem_cons_of_mem _ hj, pj, fun k hk pk => by
          rcases List.mem_cons.1 hk with e | e
          · subst e
            have : ¬ j < k := fun h => hi ⟨pk, h⟩
            omega
          · exact hm k e pk⟩
    · obtain ⟨j, hj, pj⟩ := h
      rcases List.mem_cons.1 hj with e | e
      · subst e
        exact ⟨j, List.mem_cons_self, pj, fun k hk pk => by
          rcases List.mem_cons.1 hk with e | e
          · omega
          · exact absurd ⟨k, e, pk⟩ hL⟩
      · exact absurd ⟨j, e, pj⟩ hL
omit [LC] in
theorem cat_same {β : Type} {A : Nat → List (Nat × β)} {x : Nat} {b : List (Nat × β)} {pr : Nat → List Nat} {L L' : List Nat} (hg : Good pr L) (hg' : Good pr L') (hd : ∀ i j, (i ∈ L ∨ i ∈ L') → (j ∈ L ∨ j ∈ L') → i < j → look (A i) x ≠ none → look (A j) x ≠ none → i ∈ pr j)
    (hs : ∀ j, look (A j) x ≠ none → (j ∈ L ↔ j ∈ L')) : look (cat A L b) x = look (cat A L' b) x := by
  by_cases hex : ∃ j ∈ L, look (A j) x ≠ none
  · obtain ⟨j, hj, hx, hm⟩ := exists_max (fun j => look (A j) x ≠ none) L hex
    rw [cat_max hg (fun i hi j hj => hd i j (.inl hi) (.inl hj)) j hj hx hm, cat_max hg' (fun i hi j hj => hd i j (.inr hi) (.inr hj)) j ((hs j hx).1 hj) hx (fun k hk hk2 => hm k ((hs k hk2).2 hk) hk2)]
  · have h1 : ∀ j ∈ L, look (A j) x = none := fun j hj => by
      cases hq : look (A j) x with
      | none => rfl
      | some v => exact absurd ⟨j, hj, by rw [hq]; simp⟩ hex
    have h2 : ∀ j ∈ L', look (A j) x = none := fun j hj => by
      cases hq : look (A j) x with
      | none => rfl
      | some v => exact absurd ⟨j, (hs j (by rw [hq]; simp)).2 hj, by rw [hq]; simp⟩ hex
    rw [cat_out h1, cat_out h2]
omit [LC] in
theorem good_dsc {sel : List Nat} {pr : Nat → List Nat} : ∀ (m : Nat), (∀ i, i < m → i ∈ sel → ∀ j ∈ pr i, j < i ∧ j ∈ sel) → Good pr (((List.range' 0 m).filter (memN sel)).reverse)
  | 0, _ => trivial
  | m + 1, h => by
    have ih := good_dsc m (fun i hi => h i (by omega))
    rw [List.range'_1_concat, List.filter_append, List.reverse_append, Nat.zero_add]
    cases hm : memN sel m
    · rw [List.filter_cons_of_neg (by simp [hm])]; exact ih
    · rw [List.filter_cons_of_pos hm]
      refine ⟨fun hin => ?_, fun j hj => ?_, ih⟩
      · have hin : m ∈ ((List.range' 0 m).filter (memN sel)).reverse := hin
        simp only [List.mem_reverse, List.mem_filter, List.mem_range'_1] at hin
        omega
      · have := h m (by omega) (memN_iff.1 hm) j hj
        show j ∈ ((List.range' 0 m).filter (memN sel)).reverse
        rw [List.mem_reverse, List.mem_filter, List.mem_range'_1, memN_iff]
        exact ⟨⟨by omega, by omega⟩, this.2⟩

/-- what operation j adds -/
def efF (Rs : List HR) (Ms : List (Nat × Md)) (j : Nat) : List (Nat × AV) := match look Ms j with
  | some md => md.f
  | none => match Rs[j]? with
    | some r => [(r.dst, r.v)]
    | none => []
def efH (Rs : List HR) (Ms : List (Nat × Md)) (j : Nat) : List (Nat × Box) := match look Ms j with
  | some md => md.h
  | none => match Rs[j]? with
    | some r => r.new
    | none => []
def prd (Rs : List HR) (j : Nat) : List Nat := match Rs[j]? with
  | some r => r.pred
  | none => []
/-- the state when some operations have run -/
def stE (Rs : List HR) (Ms : List (Nat × Md)) (L : List Nat) (s : St) : St := { s with fr := cat (efF Rs Ms) L s.fr, hp := cat (efH Rs Ms) L s.hp }
def addSelX (Ms : List (Nat × Md)) (sel : List Nat) : List HR → Nat → St → St
  | [], _, t => t
  | r :: rs, j, t => addSelX Ms sel rs (j + 1) (bif memN sel j then (match look Ms j with
    | some md => t.addM md
    | none => t.addR r) else t)
omit [LC] in
theorem addSelX_eq {Rs : List HR} {Ms : List (Nat × Md)} {sel : List Nat} : ∀ (rs : List HR) (j : Nat) (t : St), (∀ k, k < rs.length → Rs[j + k]? = rs[k]?) → addSelX Ms sel rs j t = stE Rs Ms (((List.range' j rs.length).filter (memN sel)).reverse) t
  | [], j, t, _ => rfl
  | r :: rs, j, t, h => by
    have h0 : Rs[j]? = some r := by simpa using h 0 (by simp)
    rw [addSelX, addSelX_eq rs (j + 1) _ (fun k hk => by have := h (k + 1) (by simp; omega); rw [show j + 1 + k = j + (k + 1) by omega, this]; simp), List.length_cons, List.range'_succ]
    cases hm : memN sel j
    · rw [List.filter_cons_of_neg (by simp [hm])]; rfl
    · rw [List.filter_cons_of_pos hm, List.reverse_cons]
      simp only [stE, cat_append, cat, cond_true, efF, efH, h0]
      cases look Ms j <;> rfl
/-- which boxes are not to be looked at: what operations change that are not ordered against this one -/
def hidK (Cs : List (Nat × List Nat × List Nat)) (pred : List Nat) (i : Nat) : List Nat := match Cs with
  | [] => []
  | (m, K, Pm) :: r => bif Nat.beq m i || memN pred m || memN Pm i then hidK r pred i else K ++ hidK r pred i
omit [LC] in
theorem mem_hidK {pred : List Nat} {i x : Nat} : ∀ {Cs : List (Nat × List Nat × List Nat)} {m : Nat} {K Pm : List Nat}, (m, K, Pm) ∈ Cs → m ≠ i → m ∉ pred → i ∉ Pm → x ∈ K → x ∈ hidK Cs pred i
  | (m', K', P') :: Cs, m, K, Pm, h, h1, h2, h3, h4 => by
    simp only [hidK]
    rcases List.mem_cons.1 h with e | h
    · simp only [Prod.mk.injEq] at e
      obtain ⟨rfl, rfl, rfl⟩ := e
      have hc : (Nat.beq m i || memN pred m || memN Pm i) = false := by
        simp only [Bool.or_eq_false_iff]
        refine ⟨⟨?_, ?_⟩, ?_⟩
        · cases hb : Nat.beq m i
          · rfl
          · exact absurd (Nat.eq_of_beq_eq_true hb) h1
        · cases hb : memN pred m
          · rfl
          · exact absurd (memN_iff.1 hb) h2
        · cases hb : memN Pm i
          · rfl
          · exact absurd (memN_iff.1 hb) h3
      rw [hc]
      exact List.mem_append.2 (.inl h4)
    · have ih := mem_hidK h h1 h2 h3 h4
      cases Nat.beq m' i || memN pred m' || memN P' i
      · exact List.mem_append.2 (.inr ih)
      · exact ih
def in16 (lo k : Nat) : Prop := lo ≤ k ∧ k < lo + 32
omit [LC] in
theorem predsOf_sup {Rs : List HR} : ∀ {es : List Edge} {l : List Nat}, predsOf Rs es = some l → ∀ e ∈ es, Region.binds .any e = true → ∀ r, Rs[e.on]? = some r → ∀ j ∈ r.pred, j ∈ l
  | [], l, _, e, he, _, _, _, _, _ => by cases he
  | e0 :: es, l, h, e, he, hb, r, hr, j, hj => by
    simp only [predsOf] at h
    cases hb0 : Region.binds .any e0 <;> rw [hb0] at h <;> simp only [cond_true, cond_false] at h
    · rcases List.mem_cons.1 he with rfl | he
      · rw [hb0] at hb; cases hb
      · exact predsOf_sup h e he hb r hr j hj
    · split at h
      · rename_i r' l' h1 h2
        simp only [Option.some.injEq] at h; subst h
        rw [mem_unionN]
        rcases List.mem_cons.1 he with rfl | he
        · rw [hr] at h1; cases h1; exact .inl (List.mem_cons_of_mem _ hj)
        · exact .inr (predsOf_sup h2 e he hb r hr j hj)
      · cases h
section
variable {P : Program} {w₀ : World} {G₀ : Gh} {hp₀ : List (Nat × Box)} {s : St}
/-- what the head's reckoning shows of every operation -/
structure OkX (ops : Array Oper) (s : St) (Rs : List HR) (Ms : List (Nat × Md)) (Cs : List (Nat × List Nat × List Nat)) (i : Nat) (o : Oper) (r : HR) : Prop where
  get : Rs[i]? = some r
  room : noRange (s.nx + 32 * r.dst) s.hp = true
  pred : predsOf (Rs.take i) o.after.toList = some r.pred
  fresh : freshDst r.dst (Rs.take i) = true
  reads : readsFine r.pred (readsOf ops o) (Rs.take i) 0 = true
  writes : writesFine ops r.dst r.pred i = true
  f : ∀ e ∈ efF Rs Ms i, e.1 = r.dst
  h : ∀ e ∈ efH Rs Ms i, in16 (s.nx + 32 * r.dst) e.1 ∨ (look Ms i ≠ none ∧ (∃ K Pm, (i, K, Pm) ∈ Cs ∧ e.1 ∈ K ∧ ∀ j ∈ Pm, j ∈ r.pred) ∧ ((∃ b, look s.hp e.1 = some b) ∨ ∃ c rc, c ∈ r.pred ∧ Rs[c]? = some rc ∧ in16 (s.nx + 32 * rc.dst) e.1) ∧ ∀ j, j < i → look Ms j ≠ none → j ∈ r.pred)
def seenX (s : St) (Rs : List HR) (Ms : List (Nat × Md)) (Cs : List (Nat × List Nat × List Nat)) (i : Nat) (r : HR) : St := (addSelX Ms r.pred (Rs.take i) 0 s).hide (hidK Cs r.pred i)
def StX (P : Program) (ops : Array Oper) (s : St) (Rs : List HR) (Ms : List (Nat × Md)) (Cs : List (Nat × List Nat × List Nat)) (i : Nat) (o : Oper) (r : HR) : Prop :=
  (look Ms i = none ∧ o.dst = some r.dst ∧ r.dst < s.n ∧ ∃ ps, ∃ c : Dec, astepH P ops (seenX s Rs Ms Cs i r) c o = some (ps, r.v, r.new) ∧ Alls ps) ∨
  (∃ ps d md, look Ms i = some md ∧ o.guard = none ∧ (∀ t, o.dst = some t → t = r.dst ∧ t < s.n) ∧ modOp P (seenX s Rs Ms Cs i r) d o = some (ps, md) ∧ Alls ps)

theorem headX_ok {ops : Array Oper} {n : Nat} {Rs : List HR} {Ms : List (Nat × Md)} {Cs : List (Nat × List Nat × List Nat)} {N : Act → World → Prop} (hn : n ≤ ops.size) (hed : edgesFine ops.toList 0 = true) (ht : tailFine ops n = true) (hlen : Rs.length = n)
    (hO : ∀ i o, i < n → ops[i]? = some o → ∃ r, OkX ops s Rs Ms Cs i o r ∧ StX P ops s Rs Ms Cs i o r)
    (htail : ∀ (G : Gh) (a : Act) (w : World) (listed : Array Bool), Rel w₀ G₀ hp₀ G (addSelX Ms (List.range n) Rs 0 s) a w → Upto ops n listed → dAny P ops N (ops.size - n) listed a w) :
    ∀ (g : Nat) (L : List Nat) (listed : Array Bool) (G : Gh) (a : Act) (w : World), ops.size = g + L.length → Inv ops n L listed → Good (prd Rs) L → Rel w₀ G₀ hp₀ G (stE Rs Ms L s) a w → dAny P ops N g listed a w := by
  have hop : ∀ i, i < n → ops[i]? = some (ops[i]?.getD default) := fun i hi => by
    have : i < ops.size := by omega
    simp [this]
  -- predecessors
  have hpreds : ∀ {L : List Nat}, (∀ i ∈ L, ∀ o, ops[i]? = some o → ∀ e ∈ o.after, Region.binds .any e = true → e.on ∈ L) → ∀ (i : Nat) (o : Oper) (r : HR), i < n → ops[i]? = some o → Rs[i]? = some r → (∀ e ∈ o.after, Region.binds .any e = true → e.on ∈ L) → (∀ j ∈ r.pred, j ∈ L ∧ j < i) := by
    intro L hcl i
    induction i using Nat.strongRecOn with
    | ind i ih =>
      intro o r hi ho hr hall j hj
      obtain ⟨r', ok, _⟩ := hO i o hi ho
      have h1 := ok.get
      rw [hr] at h1; injection h1 with h1; subst h1
      obtain ⟨e, he, hb, hje⟩ := (predsOf_mem ok.pred).2 j hj
      have hlt := edgesFine_iff hed i o (by simpa using ho) e (by simpa using he) hb
      have hlt' : e.on < i := by omega
      have heL := hall e (by simpa using he) hb
      rcases hje with rfl | ⟨re, hre, hje⟩
      · exact ⟨heL, hlt'⟩
      · have hre' : Rs[e.on]? = some re := by rw [List.getElem?_take] at hre; rw [if_pos hlt'] at hre; exact hre
        have hoe : ops[e.on]? = some ops[e.on] := by simp
        have := ih e.on hlt' ops[e.on] re (by omega) hoe hre' (hcl e.on heL _ hoe) j hje
        exact ⟨this.1, by omega⟩
  have hlt : ∀ (i : Nat) (r : HR), i < n → Rs[i]? = some r → ∀ j ∈ r.pred, j < i := fun i r hi hr j hj => by
    refine (hpreds (L := List.range n) (fun k hk o ho e he hb => ?_) i _ r hi (hop i hi) hr (fun e he hb => ?_) j hj).2
    · have := edgesFine_iff hed k o (by simpa using ho) e (by simpa using he) hb
      have hk' := List.mem_range.1 hk
      exact List.mem_range.2 (by omega)
    · have := edgesFine_iff hed i _ (by simpa using hop i hi) e (by simpa using he) hb
      exact List.mem_range.2 (by omega)
  have htrans : ∀ (i : Nat) (r : HR), i < n → Rs[i]? = some r → ∀ k ∈ r.pred, ∀ rk : HR, Rs[k]? = some rk → ∀ c ∈ rk.pred, c ∈ r.pred := by
    intro i
    induction i using Nat.strongRecOn with
    | ind i ih =>
      intro r hi hr k hk rk hrk c hc
      obtain ⟨r', ok, _⟩ := hO i _ hi (hop i hi)
      have h1 := ok.get
      rw [hr] at h1; injection h1 with h1; subst h1
      obtain ⟨e, he, hb, hje⟩ := (predsOf_mem ok.pred).2 k hk
      have hle := edgesFine_iff hed i _ (by simpa using hop i hi) e (by simpa using he) hb
      have hle' : e.on < i := by omega
      rcases hje with rfl | ⟨re, hre, hje⟩
      · exact predsOf_sup ok.pred e he hb rk (by rw [List.getElem?_take, if_pos hle']; exact hrk) c hc
      · have hre' : Rs[e.on]? = some re := by rw [List.getElem?_take, if_pos hle'] at hre; exact hre
        exact predsOf_sup ok.pred e he hb re hre c (ih e.on hle' re (by omega) hre' k hje rk hrk c hc)
  have hdst : ∀ (i j : Nat) (r r' : HR), i < n → j < n → Rs[i]? = some r → Rs[j]? = some r' → r.dst = r'.dst → i = j := fun i j r r' hi hj hr hr' hd => by
    rcases Nat.lt_trichotomy i j with h | h | h
    · obtain ⟨r2, ok, _⟩ := hO j _ hj (hop j hj)
      have h1 := ok.get
      rw [hr'] at h1; injection h1 with h1; subst h1
      exact absurd hd (freshDst_iff.1 ok.fresh r (List.mem_of_getElem? (i := i) (by rw [List.getElem?_take, if_pos h]; exact hr)))
    · exact h
    · obtain ⟨r2, ok, _⟩ := hO i _ hi (hop i hi)
      have h1 := ok.get
      rw [hr] at h1; injection h1 with h1; subst h1
      exact absurd hd.symm (freshDst_iff.1 ok.fresh r' (List.mem_of_getElem? (i := j) (by rw [List.getElem?_take, if_pos h]; exact hr')))
  have hrs : ∀ i, i < n → ∃ r, Rs[i]? = some r ∧ OkX ops s Rs Ms Cs i (ops[i]?.getD default) r := fun i hi => by
    obtain ⟨r, ok, _⟩ := hO i _ hi (hop i hi)
    exact ⟨r, ok.get, ok⟩
  -- two that touch the same are ordered
  have old : ∀ (i : Nat) (r : HR) (x : Nat), OkX ops s Rs Ms Cs i (ops[i]?.getD default) r → in16 (s.nx + 32 * r.dst) x → look s.hp x = none := fun i r x ok hx => by
    cases hq : look s.hp x with
    | none => rfl
    | some b =>
      have := noRange_iff.1 ok.room _ (look_mem hq)
      unfold in16 at hx
      simp only at this
      omega
  have hC1 : ∀ (x i j : Nat), i < n → j < n → i < j → look (efH Rs Ms i) x ≠ none → look (efH Rs Ms j) x ≠ none → i ∈ prd Rs j := fun x i j hi hj hij h1 h2 => by
    obtain ⟨ri, gi, oki⟩ := hrs i hi
    obtain ⟨rj, gj, okj⟩ := hrs j hj
    have hpj : prd Rs j = rj.pred := by unfold prd; rw [gj]
    rw [hpj]
    obtain ⟨e1, m1, rfl⟩ := lookP_mem h1
    obtain ⟨e2, m2, hx⟩ := lookP_mem h2
    rcases oki.h e1 m1 with a1 | ⟨n1, _, c1, _⟩
    · rcases okj.h e2 m2 with a2 | ⟨n2, _, c2, _⟩
      · rw [hx] at a2
        exact absurd (hdst i j ri rj hi hj gi gj (by unfold in16 at a1 a2; omega)) (by omega)
      · rw [hx] at c2
        rcases c2 with ⟨b, hb⟩ | ⟨c, rc, c3, c4, c5⟩
        · rw [old i ri _ oki a1] at hb; cases hb
        · have hcn : c < n := by have := hlt j rj hj gj c c3; omega
          have : c = i := hdst c i rc ri hcn hi c4 gi (by unfold in16 at a1 c5; omega)
          exact this ▸ c3
    · rcases okj.h e2 m2 with a2 | ⟨n2, _, c2, c6⟩
      · rw [hx] at a2
        rcases c1 with ⟨b, hb⟩ | ⟨c, rc, c3, c4, c5⟩
        · rw [old j rj _ okj a2] at hb; cases hb
        · have hcn : c < i := hlt i ri hi gi c c3
          have : c = j := hdst c j rc rj (by omega) hj c4 gj (by unfold in16 at a2 c5; omega)
          omega
      · exact c6 i hij n1
  have hC2 : ∀ (d i j : Nat), i < n → j < n → i < j → look (efF Rs Ms i) d ≠ none → look (efF Rs Ms j) d ≠ none → i ∈ prd Rs j := fun d i j hi hj hij h1 h2 => by
    obtain ⟨ri, gi, oki⟩ := hrs i hi
    obtain ⟨rj, gj, okj⟩ := hrs j hj
    obtain ⟨e1, m1, rfl⟩ := lookP_mem h1
    obtain ⟨e2, m2, hx⟩ := lookP_mem h2
    have := oki.f e1 m1
    have := okj.f e2 m2
    exact absurd (hdst i j ri rj hi hj gi gj (by omega)) (by omega)
  -- all have run
  have fin : ∀ (L : List Nat) (listed : Array Bool) (G : Gh) (a : Act) (w : World), (∀ i, i < n → i ∈ L) → Inv ops n L listed → Good (prd Rs) L → Rel w₀ G₀ hp₀ G (stE Rs Ms L s) a w → dAny P ops N (ops.size - n) listed a w := by
    intro L listed G a w hall hinv hgood hr
    refine htail G a w listed (hr.eqv ?_) ⟨hinv.size, fun j hj => by rw [hinv.iff j hj]; exact ⟨fun h => hinv.lt j h, fun h => hall j h⟩⟩
    rw [addSelX_eq (Rs := Rs) Rs 0 s (fun k _ => by rw [Nat.zero_add]), hlen]
    have hmem : ∀ j, j ∈ ((List.range' 0 n).filter (memN (List.range n))).reverse ↔ j ∈ L := fun j => by
      rw [List.mem_reverse, List.mem_filter, memN_iff, List.mem_range'_1, List.mem_range]
      exact ⟨fun h => hall j h.2, fun h => by have := hinv.lt j h; exact ⟨⟨by omega, by omega⟩, this⟩⟩
    have hg2 : Good (prd Rs) (((List.range' 0 n).filter (memN (List.range n))).reverse) := good_dsc n (fun i hi _ j hj => by
      obtain ⟨r, gr, _⟩ := hrs i hi
      have hp : prd Rs i = r.pred := by unfold prd; rw [gr]
      rw [hp] at hj
      have := hlt i r hi gr j hj
      exact ⟨this, List.mem_range.2 (by omega)⟩)
    have hb : ∀ i, (i ∈ L ∨ i ∈ ((List.range' 0 n).filter (memN (List.range n))).reverse) → i < n := fun i h => by
      rcases h with h | h
      · exact hinv.lt i h
      · exact hinv.lt i ((hmem i).1 h)
    exact ⟨rfl, rfl, fun d => cat_same hgood hg2 (fun i j hi hj => hC2 d i j (hb i hi) (hb j hj)) (fun j _ => (hmem j).symm), fun x => cat_same hgood hg2 (fun i j hi hj => hC1 x i j (hb i hi) (hb j hj)) (fun j _ => (hmem j).symm), rfl⟩
  intro g
  induction g with
  | zero =>
    intro L listed G a w hg hinv hgood hr
    have h1 := nodup_le n L hinv.nodup hinv.lt
    have hnn : n = ops.size := by omega
    have hall : ∀ i, i < n → i ∈ L := fun i hi => by
      by_cases hm : i ∈ L
      · exact hm
      · have := nodup_le n (i :: L) (List.nodup_cons.2 ⟨hm, hinv.nodup⟩) (fun j hj => by rcases List.mem_cons.1 hj with rfl | hj; · exact hi
                                                                                         · exact hinv.lt j hj)
        simp at this; omega
    have := fin L listed G a w hall hinv hgood hr
    rwa [hnn, Nat.sub_self] at this
  | succ g ih =>
    intro L listed G a w hg hinv hgood hr
    by_cases hall : ∀ i, i < n → i ∈ L
    · have h1 := nodup_le n L hinv.nodup hinv.lt
      have h2 := le_nodup n L hall
      have := fin L listed G a w hall hinv hgood hr
      rwa [show ops.size - n = g + 1 by omega] at this
    · have hex : ∃ i, i < n ∧ i ∉ L ∧ ∀ j, j < i → j ∈ L := by
        have : ∃ i, i < n ∧ i ∉ L := by
          simpa using hall
        obtain ⟨i, hi, hm⟩ := this
        clear hall
        induction i using Nat.strongRecOn with
        | ind i ih =>
          by_cases hsm : ∀ j, j < i → j ∈ L
          · exact ⟨i, hi, hm, hsm⟩
          · have : ∃ j, j < i ∧ j ∉ L := by simpa using hsm
            obtain ⟨j, hj, hjm⟩ := this
            exact ih j hj (by omega) hjm
      obtain ⟨i0, hi0, hm0, hsm0⟩ := hex
      have hi0s : i0 < ops.size := by omega
      have h0r : i0 ∈ Region.ready .any ops listed := by
        refine mem_ready'.2 ⟨hi0s, ?_, ops[i0], by simp, fun e he hb => ?_⟩
        · cases hq : listed.getD i0 true
          · rfl
          · exact absurd ((hinv.iff i0 hi0s).1 hq) hm0
        · have := edgesFine_iff hed i0 ops[i0] (by simp) e he hb
          have hlt : e.on < i0 := by omega
          exact (hinv.getD_false (by omega)).2 (hsm0 _ hlt)
      refine ⟨fun hnil => (by rw [hnil] at h0r; cases h0r), fun i hi => ?_⟩
      obtain ⟨i1, i2, o, i3, i4⟩ := mem_ready'.1 hi
      have hiL : i ∉ L := fun h => by rw [(hinv.iff i i1).2 h] at i2; cases i2
      have hin : i < n := by
        rcases Nat.lt_or_ge i n with h | h
        · exact h
        · rcases Nat.lt_or_ge n i with h | h
          · obtain ⟨e, he1, he2, he3⟩ := waitsOn_iff (tailFine_next ht h i3)
            have := i4 e he1 he3
            rw [he2, hinv.getD_false (by omega)] at this
            have := hinv.lt _ this
            omega
          · have : i = n := by omega
            subst this
            exact absurd (tailFine_first ht i3 hinv.closed (fun e he hb => by
              have hlt := edgesFine_iff hed i o (by simpa using i3) e he hb
              exact (hinv.getD_false (by omega)).1 (i4 e he hb)) i0 hi0) hm0
      have hedge : ∀ e ∈ o.after, Region.binds .any e = true → e.on ∈ L := fun e he hb => by
        have hlt := edgesFine_iff hed i o (by simpa using i3) e he hb
        exact (hinv.getD_false (by omega)).1 (i4 e he hb)
      obtain ⟨r, ok, st⟩ := hO i o hin i3
      have gr := ok.get
      have hpred := hpreds hinv.closed i o r hin i3 gr hedge
      have hpr : prd Rs i = r.pred := by unfold prd; rw [gr]
      have hgood' : Good (prd Rs) (i :: L) := ⟨hiL, fun j hj => by rw [hpr] at hj; exact (hpred j hj).1, hgood⟩
      have hnext : Inv ops n (i :: L) (listed.setIfInBounds i true) := by
        refine ⟨List.nodup_cons.2 ⟨hiL, hinv.nodup⟩, fun j hj => ?_, by simp [hinv.size], fun j hj => ?_, fun j hj oj hoj e he hb => ?_⟩
        · rcases List.mem_cons.1 hj with rfl | hj
          · exact hin
          · exact hinv.lt j hj
        · rw [Array.getD_eq_getD_getElem?, Array.getElem?_setIfInBounds]
          by_cases hij : i = j
          · subst hij; simp [hinv.size, i1]
          · rw [if_neg hij]
            have := hinv.iff j hj
            rw [Array.getD_eq_getD_getElem?] at this
            rw [this, List.mem_cons]
            exact ⟨fun h => .inr h, fun h => h.resolve_left (fun e => hij e.symm)⟩
        · rcases List.mem_cons.1 hj with rfl | hj
          · rw [i3] at hoj; injection hoj with hoj; subst hoj
            exact List.mem_cons_of_mem _ (hedge e he hb)
          · exact List.mem_cons_of_mem _ (hinv.closed j hj oj hoj e he hb)
      have htk : (Rs.take i).length = i := by simp; omega
      have hlen' : ∀ k, k < (Rs.take i).length → Rs[0 + k]? = (Rs.take i)[k]? := fun k hk => by
        rw [List.getElem?_take, if_pos (by rw [htk] at hk; omega), Nat.zero_add]
      have hseen : seenX s Rs Ms Cs i r = (stE Rs Ms (((List.range' 0 i).filter (memN r.pred)).reverse) s).hide (hidK Cs r.pred i) := by
        unfold seenX
        rw [addSelX_eq (Rs := Rs) (Rs.take i) 0 s hlen', htk]
      have hsel : ∀ j, j ∈ ((List.range' 0 i).filter (memN r.pred)).reverse ↔ j ∈ r.pred := fun j => by
        rw [List.mem_reverse, List.mem_filter, memN_iff]
        refine ⟨fun h => h.2, fun h => ⟨?_, h⟩⟩
        rw [List.mem_range'_1]; exact ⟨by omega, by have := (hpred j h).2; omega⟩
      have hgsel : Good (prd Rs) (((List.range' 0 i).filter (memN r.pred)).reverse) := good_dsc i (fun k hk hks j hj => by
        obtain ⟨rk, gk, _⟩ := hrs k (by omega)
        have hpk : prd Rs k = rk.pred := by unfold prd; rw [gk]
        rw [hpk] at hj
        exact ⟨hlt k rk (by omega) gk j hj, htrans i r hin gr k hks rk gk j hj⟩)
      have hbn : ∀ k, (k ∈ ((List.range' 0 i).filter (memN r.pred)).reverse ∨ k ∈ L) → k < n := fun k h => by
        rcases h with h | h
        · have := (hpred k ((hsel k).1 h)).2; omega
        · exact hinv.lt k h
      -- an operation that has run already, and is no predecessor, writes nothing that is looked at
      have late : ∀ (j : Nat) (rj : HR), Rs[j]? = some rj → j ∈ L → rj.dst ∈ readsOf ops o → j ∈ r.pred := by
        intro j rj hj h hd
        have hjn := hinv.lt j h
        have hji : j ≠ i := fun e => hiL (e ▸ h)
        rcases Nat.lt_or_gt_of_ne hji with hlt' | hgt
        · rcases readsFine_iff ok.reads j rj (by rw [List.getElem?_take, if_pos hlt']; exact hj) with h' | h'
          · simpa using h'
          · exact absurd hd h'
        · have hoj := hop j hjn
          obtain ⟨rj', okj, _⟩ := hO j _ hjn hoj
          have k1 := okj.get
          rw [hj] at k1; injection k1 with k1; subst k1
          rcases writesFine_iff okj.writes i o hgt i3 with h' | h'
          · have := hpreds hinv.closed j _ rj hjn hoj hj (hinv.closed j h _ hoj) i h'
            exact absurd this.1 hiL
          · exact absurd hd h'
      have hreads : ∀ d ∈ readsOf ops o, look (seenX s Rs Ms Cs i r).fr d = look (stE Rs Ms L s).fr d := fun d hd => by
        rw [hseen]
        show look (cat (efF Rs Ms) _ s.fr) d = look (cat (efF Rs Ms) L s.fr) d
        refine cat_same hgsel hgood (fun a b ha hb => hC2 d a b (hbn a ha) (hbn b hb)) (fun j hj => ⟨fun h => (hpred j ((hsel j).1 h)).1, fun h => (hsel j).2 ?_⟩)
        obtain ⟨rj, gj, okj⟩ := hrs j (hinv.lt j h)
        obtain ⟨e, he, rfl⟩ := lookP_mem hj
        exact late j rj gj h (by rw [← okj.f e he]; exact hd)
      have hhp : ∀ x b, look (seenX s Rs Ms Cs i r).hp x = some b → look (stE Rs Ms L s).hp x = some b := fun x b hb => by
        rw [hseen] at hb
        obtain ⟨b1, b2⟩ := look_hide hb
        have b1' : look (cat (efH Rs Ms) (((List.range' 0 i).filter (memN r.pred)).reverse) s.hp) x = some b := b1
        rw [← b1']
        refine (cat_same hgsel hgood (fun a b ha hb => hC1 x a b (hbn a ha) (hbn b hb)) (fun j hj => ⟨fun h => (hpred j ((hsel j).1 h)).1, fun h => (hsel j).2 ?_⟩)).symm
        have hjn := hinv.lt j h
        obtain ⟨rj, gj, okj⟩ := hrs j hjn
        obtain ⟨e, he, hex⟩ := lookP_mem hj
        by_cases hjp : j ∈ r.pred
        · exact hjp
        · exfalso
          have hji : j ≠ i := fun e => hiL (e ▸ h)
          rcases okj.h e he with a1 | ⟨_, ⟨K, Pm, k1, k2, k3⟩, _, _⟩
          · rw [hex] at a1
            by_cases hk : ∃ k ∈ ((List.range' 0 i).filter (memN r.pred)).reverse, look (efH Rs Ms k) x ≠ none
            · obtain ⟨k, hk1, hk2⟩ := hk
              have hkp := (hsel k).1 hk1
              have hkn : k < n := hbn k (.inl hk1)
              obtain ⟨rk, gk, okk⟩ := hrs k hkn
              obtain ⟨e2, he2, hex2⟩ := lookP_mem hk2
              rcases okk.h e2 he2 with a2 | ⟨_, _, c1, _⟩
              · rw [hex2] at a2
                have : j = k := hdst j k rj rk hjn hkn gj gk (by unfold in16 at a1 a2; omega)
                exact hjp (this ▸ hkp)
              · rw [hex2] at c1
                rcases c1 with ⟨b', hb'⟩ | ⟨c, rc, c3, c4, c5⟩
                · rw [old j rj x okj a1] at hb'; cases hb'
                · have hcn : c < n := by have := hlt k rk hkn gk c c3; omega
                  have : c = j := hdst c j rc rj hcn hjn c4 gj (by unfold in16 at a1 c5; omega)
                  exact hjp (htrans i r hin gr k hkp rk gk j (this ▸ c3))
            · have hnone : ∀ k ∈ ((List.range' 0 i).filter (memN r.pred)).reverse, look (efH Rs Ms k) x = none := fun k hk1 => by
                cases hq : look (efH Rs Ms k) x with
                | none => rfl
                | some v => exact absurd ⟨k, hk1, by rw [hq]; simp⟩ hk
              rw [cat_out hnone, old j rj x okj a1] at b1'
              cases b1'
          · refine b2 (mem_hidK k1 hji hjp (fun hiP => hiL ?_) (hex ▸ k2))
            exact hgood.closed j h i (by unfold prd; rw [gj]; exact k3 i hiP)
      have hroom : noRange (s.nx + 32 * r.dst) (stE Rs Ms L s).hp = true := by
        rw [noRange_iff]
        intro e he
        rcases mem_cat he with ⟨j, hj, he⟩ | he
        · have hjn := hinv.lt j hj
          have hji : j ≠ i := fun e => hiL (e ▸ hj)
          obtain ⟨rj, gj, okj⟩ := hrs j hjn
          rcases okj.h e he with a1 | ⟨_, _, c1, _⟩
          · have : rj.dst ≠ r.dst := fun hq => hji (hdst j i rj r hjn hin gj gr hq)
            unfold in16 at a1; omega
          · rcases c1 with ⟨b', hb'⟩ | ⟨c, rc, c3, c4, c5⟩
            · exact noRange_iff.1 ok.room (e.1, b') (look_mem hb')
            · have hcL : c ∈ L := hgood.closed j hj c (by unfold prd; rw [gj]; exact c3)
              have hcn := hinv.lt c hcL
              have : rc.dst ≠ r.dst := fun hq => hiL ((hdst c i rc r hcn hin c4 gr hq) ▸ hcL)
              unfold in16 at c5; omega
        · exact noRange_iff.1 ok.room _ he
      have hsees : (∀ d, o.dst = some d → d = r.dst) → Sees o (seenX s Rs Ms Cs i r) (stE Rs Ms L s) := fun hd => by
        refine ⟨by rw [hseen]; rfl, fun x hx => ?_, hhp, fun d hd' => ?_⟩
        · cases x with
          | tmp t =>
            exact hreads t (by simp only [readsOf]; refine List.mem_append.2 (.inl ?_); rw [List.mem_filterMap]; exact ⟨.tmp t, hx, rfl⟩)
          | _ => rfl
        · rw [hd d hd']; exact hroom
      rcases st with ⟨s1, s2, s3, ps, c, s4, s5⟩ | ⟨ps, d, md, s1, s2, s3, s4, s5⟩
      · have h9' := astepH_sees (hsees (fun d hd => by rw [s2] at hd; injection hd with hd; exact hd.symm)) hreads s4
        have hadd : (stE Rs Ms L s).add o.dst r.v r.new = some (stE Rs Ms (i :: L) s) := by
          rw [s2]
          have hbl : Nat.blt r.dst s.n = true := by simpa using s3
          simp only [St.add, stE, hbl, cond_true, cat, efF, efH, s1, gr, List.singleton_append]
        exact astepH_ok hr i3 h9' s5 hadd (fun G' a' w' hr' => ih (i :: L) _ G' a' w' (by simp; omega) hnext hgood' hr')
      · have h9' := modOp_sees (hsees (fun d hd => (s3 d hd).1)) (by rw [hseen]; rfl) s4
        refine dOp_of i3 (by simp [Region.wanted, s2]) (aex_ok hr (modOp_aex h9') s5 (fun G' a' w' hr' => ih (i :: L) _ G' a' w' (by simp; omega) hnext hgood' ?_))
        have : (stE Rs Ms L s).addM md = stE Rs Ms (i :: L) s := by
          simp only [St.addM, stE, cat, efF, efH, s1]
        rw [← this]; exact hr'
end
end Go.Sym
