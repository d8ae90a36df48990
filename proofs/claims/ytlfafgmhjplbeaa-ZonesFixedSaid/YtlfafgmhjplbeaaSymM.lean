/- A region that draws its order: a head in whatever order, a tail in one. -/
import Derived.Test.YtlfafgmhjplbeaaSymK
namespace Go.Sym
open Go.RowKit

def memN : List Nat → Nat → Bool
  | [], _ => false
  | x :: xs, i => Nat.beq x i || memN xs i
def unionN : List Nat → List Nat → List Nat
  | [], l => l
  | x :: xs, l => bif memN l x then unionN xs l else unionN xs (x :: l)
/-- what an operation of the head has yielded, and which operations come before it -/
structure HR : Type 1 where
  dst : Nat
  v : AV
  new : List (Nat × Box)
  pred : List Nat
def St.addR (s : St) (r : HR) : St := { s with fr := (r.dst, r.v) :: s.fr, hp := r.new ++ s.hp }
def addSel (sel : List Nat) : List HR → Nat → St → St
  | [], _, t => t
  | r :: rs, j, t => addSel sel rs (j + 1) (bif memN sel j then t.addR r else t)
def addAll : List HR → St → St
  | [], t => t
  | r :: rs, t => addAll rs (t.addR r)
/-- an operation that changes nothing of what is known -/
def astepH (P : Program) (ops : Array Oper) (t : St) (c : Dec) (o : Oper) : Option (List Prop × AV × List (Nat × Box)) :=
  match o.guard with
  | none => aadd P t c.2 o
  | some (j, want) => match guardOf ops t j with
    | none => none
    | some none => some ([], .val undef, [])
    | some (some b) => bif c.1 == want then (match aadd P t c.2 o with
        | some (ps, v, new) => some ((b = c.1) :: ps, v, new)
        | none => none)
      else some ([b = c.1], .val undef, [])
def predsOf (Rs : List HR) : List Edge → Option (List Nat)
  | [] => some []
  | e :: es => bif Region.binds .any e then
      match Rs[e.on]?, predsOf Rs es with
      | some r, some l => some (unionN (e.on :: r.pred) l)
      | _, _ => none
    else predsOf Rs es
def freshDst (d : Nat) : List HR → Bool
  | [] => true
  | r :: rs => !Nat.beq r.dst d && freshDst d rs
/-- the slots that an operation looks at -/
def readsOf (ops : Array Oper) (o : Oper) : List Nat :=
  o.op.operands.toList.filterMap (fun x => match x with | .tmp t => some t | _ => none) ++
  (match o.guard with
   | some (j, _) => match ops[j]? with
     | some oj => oj.dst.toList
     | none => []
   | none => [])
/-- operation i looks at no slot that an elder operation writes, unless that one comes before it -/
def readsFine (pred reads : List Nat) : List HR → Nat → Bool
  | [], _ => true
  | r :: rs, j => (memN pred j || !memN reads r.dst) && readsFine pred reads rs (j + 1)
/-- operation i writes no slot that an elder operation looks at, unless that one comes before it -/
def writesFine (ops : Array Oper) (d : Nat) (pred : List Nat) : Nat → Bool
  | 0 => true
  | j + 1 => (memN pred j || (match ops[j]? with | some o => !memN (readsOf ops o) d | none => true)) && writesFine ops d pred j
def headGo (P : Program) (ops : Array Oper) (ds : List (Nat × Dec)) (s : St) : List Oper → Nat → List HR → List Prop → Option (List HR × List Prop)
  | [], _, Rs, acc => some (Rs, acc)
  | o :: l, i, Rs, acc =>
    match o.dst, predsOf Rs o.after.toList with
    | some d, some pred =>
      bif Nat.blt d s.n && freshDst d Rs && noRange (s.nx + 16 * d) s.hp && readsFine pred (readsOf ops o) Rs 0 && writesFine ops d pred i then
        match astepH P ops (addSel pred Rs 0 s) (decOf ds i) o with
        | some (ps, v, new) => headGo P ops ds s l (i + 1) (Rs ++ [⟨d, v, new, pred⟩]) (ps ++ acc)
        | none => none
      else none
    | _, _ => none
/-- every operation from the n-th on waits for all before it -/
def waitsAll (o : Oper) : Nat → Bool
  | 0 => true
  | j + 1 => o.after.toList.any (fun e => Nat.beq e.on j && Region.binds .any e) && waitsAll o j
def tailFine : List Oper → Nat → Bool
  | [], _ => true
  | o :: l, i => waitsAll o i && tailFine l (i + 1)
def edgesFine : List Oper → Nat → Bool
  | [], _ => true
  | o :: l, i => o.after.toList.all (fun e => !Region.binds .any e || Nat.blt e.on i) && edgesFine l (i + 1)
def adraw (P : Program) (ops : Array Oper) (n : Nat) (ds : List (Nat × Dec)) (s : St) (acc : List Prop) : Option (List Prop × St) :=
  bif edgesFine ops.toList 0 && tailFine (ops.toList.drop n) n && Nat.ble n ops.size && P.follows .mixedOrders then
    match headGo P ops ds s (ops.toList.take n) 0 [] acc with
    | some (Rs, acc1) => aops P ops ds (ops.toList.drop n) n (addAll Rs s) acc1
    | none => none
  else none

theorem memN_iff : ∀ {l : List Nat} {i : Nat}, memN l i = true ↔ i ∈ l
  | [], i => by simp [memN]
  | x :: xs, i => by
    simp only [memN, Bool.or_eq_true, List.mem_cons, memN_iff (l := xs)]
    constructor
    · rintro (h | h)
      · exact .inl (Nat.eq_of_beq_eq_true h).symm
      · exact .inr h
    · rintro (rfl | h)
      · exact .inl (by simp)
      · exact .inr h
theorem mem_unionN : ∀ {l m : List Nat} {i : Nat}, i ∈ unionN l m ↔ i ∈ l ∨ i ∈ m
  | [], m, i => by simp [unionN]
  | x :: xs, m, i => by
    simp only [unionN]
    cases h : memN m x
    · simp only [cond_false, mem_unionN (l := xs), List.mem_cons]
      constructor
      · rintro (h | h | h)
        · exact .inl (.inr h)
        · exact .inl (.inl h)
        · exact .inr h
      · rintro ((h | h) | h)
        · exact .inr (.inl h)
        · exact .inl h
        · exact .inr (.inr h)
    · have hx := memN_iff.1 h
      simp only [cond_true, mem_unionN (l := xs), List.mem_cons]
      constructor
      · rintro (h | h)
        · exact .inl (.inr h)
        · exact .inr h
      · rintro ((rfl | h) | h)
        · exact .inr hx
        · exact .inl h
        · exact .inr h

/-- what an operation needs of the state, and of nothing else -/
structure Sees (o : Oper) (t st : St) : Prop where
  nx : t.nx = st.nx
  ev : ∀ x ∈ o.op.operands.toList, t.ev x = st.ev x
  hp : ∀ n b, look t.hp n = some b → look st.hp n = some b
  room : ∀ d, o.dst = some d → noRange (st.nx + 16 * d) st.hp = true

theorem evs_sees {t st : St} : ∀ {xs : List Operand}, (∀ x ∈ xs, t.ev x = st.ev x) → t.evs xs = st.evs xs
  | [], _ => rfl
  | x :: xs, h => by simp only [St.evs, h x (by simp), evs_sees (xs := xs) (fun y hy => h y (by simp [hy]))]
theorem aparts_sees {t st : St} : ∀ {ps : List (Nat × Operand)}, (∀ x ∈ ps.map (·.2), t.ev x = st.ev x) → aparts t ps = aparts st ps
  | [], _ => rfl
  | (i, x) :: ps, h => by simp only [aparts, h x (by simp), aparts_sees (ps := ps) (fun y hy => h y (by simp at hy ⊢; exact .inr hy))]

theorem aval_sees {P : Program} {o : Oper} {t st : St} {d : D} {R : List Prop × AV} (hs : Sees o t st) (h : aval P t d o.op = some R) : aval P st d o.op = some R := by
  obtain ⟨dst, op, ty, pos, after, guard⟩ := o
  have hev := hs.ev
  have hhp := hs.hp
  simp only at h hev ⊢
  cases op
  case move x => simpa [aval, ← hev x (by simp [Op.operands])] using h
  case assign x => simpa [aval, ← hev x (by simp [Op.operands])] using h
  case pick c x y =>
    simp only [aval] at h ⊢
    rw [← hev c (by simp [Op.operands])]
    split at h
    · rename_i b tt hc
      have : st.ev (bif tt then x else y) = t.ev (bif tt then x else y) := by cases tt <;> exact (hev _ (by simp [Op.operands])).symm
      rw [this]; exact h
    · cases h
  case build T parts =>
    simp only [aval, aBuild] at h ⊢
    rw [← aparts_sees (t := t) (st := st) (fun x hx => hev x (by simpa [Op.operands] using hx))]
    exact h
  case load ty x =>
    simp only [aval, aLoad] at h ⊢
    rw [← hev x (by simp [Op.operands])]
    split at h
    · rename_i b off hx
      split at h
      · rename_i cs T hb
        simp only [hhp _ _ hb]; exact h
      · cases h
    · exact h
    · rename_i k sz i off hx
      split at h
      · rename_i hb
        simp only [hhp _ _ hb]; exact h
      · cases h
    · cases h
  case slice ty x lo hi mx =>
    simp only [aval, aSlice] at h ⊢
    have e1 : evInt st lo = evInt t lo := by cases lo with | none => rfl | some y => simp only [evInt]; rw [← hev y (by simp [Op.operands])]
    have e2 : evInt st hi = evInt t hi := by cases hi with | none => rfl | some y => simp only [evInt]; rw [← hev y (by simp [Op.operands])]
    rw [e1, e2, ← hev x (by simp [Op.operands])]; exact h
  case binOp op ty x y _ =>
    simp only [aval] at h ⊢
    rw [← hev x (by simp [Op.operands]), ← hev y (by simp [Op.operands])]; exact h
  case unOp op ty x =>
    simp only [aval] at h ⊢
    rw [← hev x (by simp [Op.operands])]; exact h
  case convert a b x =>
    simp only [aval] at h ⊢
    rw [← hev x (by simp [Op.operands])]
    split at h
    · rename_i v hs hx
      split at h
      · rename_i r hc; exact h
      · rename_i hc
        split at h
        · rename_i hd
          unfold aStr at h ⊢
          split at h
          · rename_i E flat n bb hu hsrc
            have : srcOf st v = srcOf t v := by
              unfold srcOf at hsrc ⊢
              split at hsrc
              · rfl
              · rfl
              · rfl
              · split at hsrc
                · rename_i hb; simp only [hb, hhp _ _ hb]
                · cases hsrc
              · cases hsrc
            rw [this, hsrc]; simp only [hu]; exact h
          · cases h
        · cases h
    · cases h
  case field ty x f =>
    simp only [aval] at h ⊢
    rw [← hev x (by simp [Op.operands])]; exact h
  case fieldAddr ty x f =>
    simp only [aval] at h ⊢
    rw [← hev x (by simp [Op.operands])]; exact h
  case extract x i =>
    simp only [aval] at h ⊢
    rw [← hev x (by simp [Op.operands])]; exact h
  case index ty x i =>
    simp only [aval] at h ⊢
    rw [← hev x (by simp [Op.operands]), ← hev i (by simp [Op.operands])]; exact h
  case indexAddr ty x i =>
    simp only [aval] at h ⊢
    rw [← hev x (by simp [Op.operands]), ← hev i (by simp [Op.operands])]
    split at h
    · rename_i v j hx hj
      simp only [aIndexAddr] at h ⊢
      split at h
      · rename_i E hu
        split at h
        · rename_i sz kk n hsz
          split at h
          · exact h
          · split at h
            · rename_i hb; simp only [hhp _ _ hb]; exact h
            · cases h
          · cases h
        · cases h
      · exact h
      · cases h
    · cases h
  case makeFunc f first cap =>
    simp only [aval] at h ⊢
    rw [← evs_sees (t := t) (st := st) (xs := first.toList) (fun x hx => hev x (by simp [Op.operands]; exact .inl (by simpa using hx))), ← evs_sees (t := t) (st := st) (xs := cap.toList) (fun x hx => hev x (by simp [Op.operands]; exact .inr (by simpa using hx)))]
    exact h
  case call c =>
    obtain ⟨callee, args, argTypes⟩ := c
    cases callee
    case builtin b =>
      have hm : ∀ z ∈ args.toList, t.ev z = st.ev z := fun z hz => hev z (by simp [Op.operands, Call.operands]; simpa using hz)
      cases b <;> try (simp [aval] at h; done)
      case len =>
        simp only [aval] at h ⊢
        split at h
        · rename_i x ty ha ht
          rw [← hm x (by rw [ha]; simp)]
          split at h
          · rename_i v hv
            simp only [aLen] at h ⊢
            split at h
            · exact h
            · exact h
            · split at h
              · rename_i hb; simp only [hhp _ _ hb]; exact h
              · cases h
            · exact h
            · cases h
          · cases h
        · cases h
      case max =>
        simp only [aval] at h ⊢
        split at h
        · rename_i x y ha
          rw [← hm x (by rw [ha]; simp), ← hm y (by rw [ha]; simp)]; exact h
        · cases h
      case min =>
        simp only [aval] at h ⊢
        split at h
        · rename_i x y ha
          rw [← hm x (by rw [ha]; simp), ← hm y (by rw [ha]; simp)]; exact h
        · cases h
    all_goals (simp [aval] at h)
  all_goals (simp [aval] at h)
end Go.Sym
