/- What the claim rests on, part 7: gathered texts. -/
import Derived.Deep.DeepHandedRow
import Derived.LaidMore
import Derived.Lay
import Derived.LaidHandle
import Derived.Test.YtojpbgaccmkggaaGreatDoorSyA6
/- From the arguments that a statement speaks of to plain data, with a bound of their bulk; a law's claim out of its plain proof, for inputs of a small bulk. -/
namespace Go.Sym
open Go.ChangeShapes Go.WideShapes Go.ChangeAt Go.RowKit
variable [LC]

/-- what a count of values and letters gives -/
structure Bulk (H : Type) where
  b : DataW H → Nat
  ba : List (DataW H) → Nat
  str : ∀ s, b (.lit (.string s)) = s.length + 1
  lit : ∀ l, 1 ≤ b (.lit l)
  nilb : b .nil = 1
  sl : ∀ e r, b (.slice e r) = ba e + ba r + 1
  agg : ∀ l, b (.agg l) = ba l + 1
  nil : ba [] = 0
  cons : ∀ d r, ba (d :: r) = b d + ba r
omit [LC] in
theorem Bulk.app {H : Type} (B : Bulk H) : ∀ (l r : List (DataW H)), B.ba (l ++ r) = B.ba l + B.ba r
  | [], r => by rw [List.nil_append, B.nil, Nat.zero_add]
  | d :: l, r => by rw [List.cons_append, B.cons, B.cons, B.app l r, Nat.add_assoc]
/-- how many values and letters -/
def Ty.bk : (τ : Ty) → τ.den → Nat
  | .str, s => List.length s + 1
  | .prod a b, x => a.bk x.1 + b.bk x.2
  | .list a, l => ((show List a.den from l).map a.bk).sum + 1
  | .unit, _ => 0
  | .tree _, _ => 0
  | _, _ => 1
section
variable {H : Type} {enc : TypeId × Value → H} {P : Program} {w : World} {base : Nat} {spare : Nat → Bool} {held : Bool}
omit [LC] in
theorem flds_openB (B : Bulk H) (n m : Nat) (cs : List Value)
    (ih : ∀ (τ : Ty) (t : TypeId) (cs : List Value) (y : DataW H × List MemPlace), tyOk P n τ t = true → DataW.trod enc P w base spare held m t cs = some y → ∃ x : τ.den, τ.bd x ∧ Reps (τ.enc x) (Gw w) cs ∧ τ.bk x ≤ B.b y.1) :
    ∀ (fs : List Field) (τ : Ty) (o : Nat) (xs : List (DataW H × List MemPlace)), fldsOk P (tyOk P n) τ fs o = true → xs.length = fs.length → (∀ (i : Nat) (f : Field), fs[i]? = some f → DataW.trod enc P w base spare held m f.type ((cs.drop f.offset).take (P.cellsOf f.type)) = xs[i]?) →
      ∃ x : τ.den, τ.bd x ∧ Reps (τ.enc x) (Gw w) ((cs.drop o).take τ.sz) ∧ τ.bk x ≤ B.ba (xs.map (·.1))
  | [], τ, o, xs, h, _, _ => by cases τ <;> simp [fldsOk] at h
  | [f], τ, o, xs, h, hl, hf => by
    have h' : (f.offset == o && (P.cellsOf f.type == τ.sz && tyOk P n τ f.type)) = true := by cases τ <;> exact h
    simp only [Bool.and_eq_true, beq_iff_eq] at h'
    match xs, hl with
    | [y], _ =>
      have hy : DataW.trod enc P w base spare held m f.type ((cs.drop f.offset).take (P.cellsOf f.type)) = some y := hf 0 f rfl
      rw [h'.1, h'.2.1] at hy
      obtain ⟨x, x1, x2, x3⟩ := ih τ f.type _ y h'.2.2 hy
      exact ⟨x, x1, x2, by simp only [List.map_cons, List.map_nil, B.cons, B.nil]; omega⟩
  | f :: g :: fs, τ, o, xs, h, hl, hf => by
    cases τ with
    | prod a b =>
      have h' : (f.offset == o && (P.cellsOf f.type == a.sz && (tyOk P n a f.type && fldsOk P (tyOk P n) b (g :: fs) (o + a.sz)))) = true := h
      simp only [Bool.and_eq_true, beq_iff_eq] at h'
      match xs, hl with
      | y :: ys, hl =>
        have hy : DataW.trod enc P w base spare held m f.type ((cs.drop f.offset).take (P.cellsOf f.type)) = some y := hf 0 f rfl
        rw [h'.1, h'.2.1] at hy
        obtain ⟨x1, b1, r1, k1⟩ := ih a f.type _ y h'.2.2.1 hy
        obtain ⟨x2, b2, r2, k2⟩ := flds_openB B n m cs ih (g :: fs) b (o + a.sz) ys h'.2.2.2 (by simpa using hl) (fun i f' hf' => hf (i + 1) f' hf')
        refine ⟨(x1, x2), ⟨b1, b2⟩, ?_, ?_⟩
        · show Reps (a.enc x1 ++ b.enc x2) (Gw w) ((cs.drop o).take (a.sz + b.sz))
          rw [List.take_add, List.drop_drop]
          exact Reps.app r1 r2
        · show a.bk x1 + b.bk x2 ≤ _
          rw [List.map_cons, B.cons]; omega
    | _ => simp [fldsOk] at h
omit [LC] in
theorem open_cellsB (B : Bulk H) : ∀ (m n : Nat) (τ : Ty) (t : TypeId) (cs : List Value) (y : DataW H × List MemPlace), tyOk P n τ t = true → DataW.trod enc P w base spare held m t cs = some y → ∃ x : τ.den, τ.bd x ∧ Reps (τ.enc x) (Gw w) cs ∧ τ.bk x ≤ B.b y.1 := by
  intro m
  induction m with
  | zero => intro n τ t cs y _ h; simp [DataW.trod] at h
  | succ m ih =>
    intro n τ t cs y ht h
    cases n with
    | zero => simp [tyOk] at ht
    | succ n =>
      cases τ with
      | int k =>
        obtain ⟨n, rfl, rfl, hw⟩ := DataW.trod_int (tyOk_int ht) h
        exact ⟨n, hw, ⟨rfl, trivial⟩, B.lit _⟩
      | byte =>
        obtain ⟨n, rfl, rfl, hw⟩ := DataW.trod_int (tyOk_byte ht) h
        have hb : 0 ≤ n ∧ n ≤ 255 := by simp only [Lit.wf, Bool.and_eq_true, decide_eq_true_eq] at hw; exact hw
        refine ⟨UInt8.ofNat n.toNat, trivial, ⟨?_, trivial⟩, B.lit _⟩
        show Value.int .u8 n = .int .u8 ((UInt8.ofNat n.toNat).toNat : Int)
        rw [UInt8.toNat_ofNat', Nat.mod_eq_of_lt (by omega)]
        congr 1; omega
      | bool =>
        obtain ⟨b, rfl, rfl⟩ := DataW.trod_bool (tyOk_bool ht) h
        exact ⟨b, trivial, ⟨rfl, trivial⟩, B.lit _⟩
      | str =>
        obtain ⟨s, rfl, rfl, hs⟩ := DataW.trod_string (tyOk_str ht) h
        refine ⟨s.data.toList, ?_, ⟨?_, trivial⟩, Nat.le_of_eq (B.str _).symm⟩
        · show s.data.toList.length ≤ maxLen
          rw [Array.length_toList]; exact hs
        · show Value.string s = .string ⟨s.data.toList.toArray⟩
          simp
      | unit => simp [tyOk] at ht
      | tree a => simp [tyOk] at ht
      | prod a b =>
        unfold tyOk at ht
        split at ht
        · rename_i fs hu
          simp only [Bool.and_eq_true, beq_iff_eq] at ht
          obtain ⟨xs, n', e1, rfl, hlen, hxl, hg⟩ := DataW.trod_struct hu h
          cases e1
          obtain ⟨x, hb, hr, hk⟩ := flds_openB B n m cs (fun τ t cs y => ih n τ t cs y) fs.toList (.prod a b) 0 xs ht.2 (by rw [hxl, Array.length_toList]) (fun i f hf => hg i f (by rw [← Array.getElem?_toList]; exact hf))
          refine ⟨x, hb, ?_, by rw [B.agg]; omega⟩
          rw [List.drop_zero, List.take_of_length_le (by rw [hlen, ht.1]; exact Nat.le_refl _)] at hr
          exact hr
        · cases ht
      | list a =>
        unfold tyOk at ht
        split at ht
        · rename_i e hu
          simp only [Bool.and_eq_true, beq_iff_eq, decide_eq_true_eq] at ht
          obtain ⟨hsz, hpos, hte⟩ := ht
          rcases DataW.trod_slice hu h with ⟨rfl, rfl⟩ | ⟨ad, len, cap, elems, rest, n', e1, rfl, rfl, _, hlc, hcm, hel, hget, _⟩
          · exact ⟨[], ⟨Nat.zero_le _, fun x hx => by cases hx⟩, ⟨⟨none, 0, rfl, Nat.le_refl _, .inl rfl⟩, trivial⟩, Nat.le_of_eq (show 0 + 1 = _ by rw [B.nilb])⟩
          · cases e1
            have each : ∀ i, i < len → ∃ (x : a.den) (h : i < elems.length), a.bd x ∧ ad.spot = none ∧ a.At (Gw w).imm x ad.block (ad.off + i * a.sz) ∧ a.bk x ≤ B.b elems[i].1 := by
              intro i hi
              have h1 := hget i hi
              rw [List.getElem?_eq_getElem (by omega)] at h1
              obtain ⟨cs, hc, hc2⟩ := Option.bind_eq_some_iff.1 h1
              obtain ⟨x, hb, hr, hk⟩ := ih n a e cs _ hte hc2
              unfold World.cells? at hc
              split at hc
              · have hl := mapM_some_length hc
                rw [List.length_range, hsz] at hl
                have hcell : ∀ (j : Nat) (v : Value), cs[j]? = some v → w.cell? ((ad.add (i * P.cellsOf e)).add j) = some v := by
                  intro j v hj
                  have hj' : j < cs.length := by
                    by_cases q : j < cs.length
                    · exact q
                    · rw [List.getElem?_eq_none (by omega)] at hj; cases hj
                  have := mapM_some_get hc j j (by rw [List.getElem?_range (by omega)])
                  rw [this, hj]
                have hspot : ad.spot = none := by
                  have g0 := hget 0 (by omega)
                  rw [List.getElem?_eq_getElem (by omega)] at g0
                  obtain ⟨cs0, hc0, _⟩ := Option.bind_eq_some_iff.1 g0
                  unfold World.cells? at hc0
                  split at hc0
                  · have hl0 := mapM_some_length hc0
                    rw [List.length_range, hsz] at hl0
                    have := mapM_some_get hc0 0 0 (by rw [List.getElem?_range (by omega)])
                    rw [List.getElem?_eq_getElem (by omega)] at this
                    simp only [Nat.zero_mul, Addr.add, if_true] at this
                    unfold World.cell? at this
                    cases hs : ad.spot with
                    | none => rfl
                    | some q =>
                      rw [hs] at this
                      split at this
                      · simp at this
                      · cases this
                  · cases hc0
                refine ⟨x, by omega, hb, hspot, ?_, hk⟩
                refine At_iff.1 (Reps.cells _ cs _ hr (enc_one a x cs hr) (fun j v hj => ?_))
                have := hcell j v hj
                rw [hsz] at this
                have ea : (ad.add (i * a.sz)).add j = ⟨ad.block, ad.off + i * a.sz + j, none⟩ := by
                  obtain ⟨b, o, s⟩ := ad
                  simp only [] at hspot
                  subst hspot
                  unfold Addr.add
                  by_cases q1 : i * a.sz = 0
                  · by_cases q2 : j = 0
                    · simp [q1, q2]
                    · simp [q1, q2]
                  · by_cases q2 : j = 0
                    · simp [q1, q2]
                    · simp [q1, q2]
                rw [ea] at this
                exact this
              · cases hc
            have lst : ∀ k, k ≤ len → ∃ l : List a.den, l.length = k ∧ (∀ x ∈ l, a.bd x) ∧ (∀ (j : Nat) (x : a.den), l[j]? = some x → a.At (Gw w).imm x ad.block (ad.off + j * a.sz)) ∧ (l.map a.bk).sum ≤ B.ba ((elems.take k).map (·.1)) := by
              intro k
              induction k with
              | zero => intro _; exact ⟨[], rfl, fun x hx => (by cases hx), fun j x hj => (by simp at hj), by simp⟩
              | succ k ihk =>
                intro hk
                obtain ⟨l, l1, l2, l3, l4⟩ := ihk (by omega)
                obtain ⟨x, hx, x1, _, x2, x3⟩ := each k (by omega)
                refine ⟨l ++ [x], by simp [l1], fun y hy => ?_, fun j y hj => ?_, ?_⟩
                · rcases List.mem_append.1 hy with q | q
                  · exact l2 y q
                  · rw [List.mem_singleton] at q; subst q; exact x1
                · by_cases q : j < l.length
                  · rw [List.getElem?_append_left q] at hj; exact l3 j y hj
                  · rw [List.getElem?_append_right (by omega)] at hj
                    have : j = k := by
                      by_cases q2 : j - l.length = 0
                      · omega
                      · rw [List.getElem?_eq_none (by simp; omega)] at hj; cases hj
                    subst this
                    rw [l1, Nat.sub_self] at hj
                    cases hj
                    exact x2
                · rw [List.take_succ_eq_append_getElem hx, List.map_append, List.map_append, B.app, List.sum_append]
                  simp only [List.map_cons, List.map_nil, B.cons, B.nil, List.sum_cons, List.sum_nil]
                  omega
            obtain ⟨l, l1, l2, l3, l4⟩ := lst len (Nat.le_refl _)
            refine ⟨l, ⟨by show l.length ≤ maxLen; omega, l2⟩, ⟨⟨some ad, cap, by rw [← l1], by omega, ?_⟩, trivial⟩, ?_⟩
            rotate_left
            · rw [List.take_of_length_le (by omega)] at l4
              rw [B.sl]
              show (l.map a.bk).sum + 1 ≤ _
              omega
            by_cases q : l = []
            · exact .inl q
            · obtain ⟨_, _, _, hs, _⟩ := each 0 (by have := List.length_pos_iff.2 q; omega)
              refine .inr ⟨ad.block, ad.off, ?_, l3⟩
              cases ad; simp only [] at hs; subst hs; rfl
        · cases ht
omit [LC] in
theorem open_argB (B : Bulk H) {r : Reach} {bb n : Nat} {τ : Ty} {t : TypeId} {v : Value} {d : DataW H} {ps : List MemPlace} (ht : tyOk P n τ t = true) (hv : Value.okWide P w r bb t v) (h : DataW.Trod enc P w base spare held t v d ps) :
    ∃ x : τ.den, τ.bd x ∧ Rep (τ.av x) (Gw w) v ∧ τ.bk x ≤ B.b d := by
  obtain ⟨m, hm⟩ := h
  obtain ⟨x, hb, hr, hk⟩ := open_cellsB B m n τ t _ _ ht hm
  refine ⟨x, hb, ?_, hk⟩
  cases n with
  | zero => simp [tyOk] at ht
  | succ n =>
    cases τ with
    | int k => obtain ⟨_, rfl⟩ := okWide_int (tyOk_int ht) hv; exact hr.1
    | byte => obtain ⟨_, rfl⟩ := okWide_int (tyOk_byte ht) hv; exact hr.1
    | bool => obtain ⟨_, rfl⟩ := okWide_bool (tyOk_bool ht) hv; exact hr.1
    | str => obtain ⟨_, rfl⟩ := okWide_string (tyOk_str ht) hv; exact hr.1
    | unit => simp [tyOk] at ht
    | tree a => simp [tyOk] at ht
    | prod a b =>
      unfold tyOk at ht
      split at ht
      · rename_i fs hu
        obtain ⟨cs, rfl, _⟩ := okWide_struct hu hv
        exact ⟨cs, rfl, hr⟩
      · cases ht
    | list a =>
      unfold tyOk at ht
      split at ht
      · rename_i e hu
        obtain ⟨_, _, _, rfl⟩ := okWide_slice hu hv
        exact hr.1
      · cases ht
/-- how many values and letters the arguments hold -/
def bks : (τs : List Ty) → Pts.den (τs.map .h) → Nat
  | [], _ => 0
  | τ :: τs, x => τ.bk x.1 + bks τs x.2
omit [LC] in
theorem open_argsB (B : Bulk H) {r : Reach} {bb n : Nat} : ∀ (τs : List Ty) (ts : List TypeId) (vs : List Value) (ds : List (DataW H)) (ps : List MemPlace), tysOk P n τs ts = true →
    (∀ (j : Nat) t v, ts[j]? = some t → vs[j]? = some v → Value.okWide P w r bb t v) → DataW.TrodAll enc P w base spare held ts vs ds ps →
    ∃ x : Pts.den (τs.map .h), bds τs x ∧ Reps (Pts.put (τs.map .h) x) (Gw w) vs ∧ bks τs x ≤ B.ba ds
  | [], [], vs, ds, ps, _, _, h => by
    obtain ⟨rfl, rfl, _⟩ := trodAll_nil h
    exact ⟨(), trivial, trivial, Nat.zero_le _⟩
  | τ :: τs, t :: ts, vs, ds, ps, h1, h2, h => by
    obtain ⟨v, vs', d, ds', p, q, rfl, rfl, rfl, hd, hr⟩ := trodAll_cons h
    simp only [tysOk, Bool.and_eq_true] at h1
    obtain ⟨x, xb, xr, xk⟩ := open_argB B h1.1 (h2 0 t v rfl rfl) hd
    obtain ⟨y, yb, yr, yk⟩ := open_argsB B τs ts vs' ds' q h1.2 (fun j t v ht hv => h2 (j + 1) t v ht hv) hr
    exact ⟨(x, y), ⟨xb, yb⟩, ⟨xr, yr⟩, by rw [B.cons]; show τ.bk x + bks τs y ≤ _; omega⟩
  | [], _ :: _, _, _, _, h, _, _ => by simp [tysOk] at h
  | _ :: _, [], _, _, _, h, _, _ => by simp [tysOk] at h
end
/-- a law's statement for inputs of bulk at most M -/
theorem liftedU {H : Type} {enc : TypeId × Value → H} {C : Checked} {os : Os} {f : FuncId} {fn : Func} {s : ChangeSpec} {so : OpenSpec} {F : Stop.Interp} {conds : List PathCond} {t : TypeId} {n : Nat} (τs : List Ty) (l : List (String × DataW Unit)) (B : Bulk H) (M : Nat)
    (small : (H : Type) → List (DataW H) → Bool) (hso : so = { OpenSpec.ofChange s with cond := some small }) (hsm : ∀ ds : List (DataW H), small H ds = true → B.ba ds ≤ M)
    (own : ownKnob C.prog.godebug = none) (laid : laidOutB C.prog = true) (started : os.Started) (noInit : C.prog.inits.idxOf? f = none) (hfn : C.prog.funcs[f]? = some fn)
    (witness : ∃ (w : World) (tape : Tape) (i : Input), w.os = os ∧ (w.forCall tape i).Shaped C.prog ∧ i.vars = [] ∧ Input.okWide C.prog (w.forCall tape i) .any w.heap.size f i ∧
      so.preRow enc C.prog fn conds false l (w.forCall tape i).memory i.args ∧ ({} : Assume).holds C.prog (lone (Frame.enter C.prog f i.args .normal) [] (w.forCall tape i)))
    (hvars : s.vars = []) (hspec : ∀ ds : List (DataW H), ds.length = fn.params.size → s.fn H ds = { results := [.lit (.bool true)], args := ds })
    (htys : tysOk C.prog n τs fn.params.toList = true) (hread : fn.params.toList.all (fun t => C.prog.readableRec t && decide (t < C.prog.types.size)) = true)
    (hres : fn.resultTypes = #[t]) (hbool : C.prog.underlying t = some .bool)
    (hcall : ∀ x : Pts.den (τs.map .h), bds τs x → bks τs x ≤ M → CallsTo C.prog f (Pts.put (τs.map .h) x) [] (.bool true) []) :
    ReturnsInHanded {} C os f .any (so.preRow enc C.prog fn conds false l) ((so.at F).post enc C.prog fn false true false false) := by
  subst hso
  refine returnsInHanded_of_row own started noInit hfn witness ?_
  intro W base args ds gs before hval hW _ hcond _ _ _ _
  have hW' := hW
  obtain ⟨p, q, hA, hV, rfl, _, _⟩ := hW
  rw [show ({ OpenSpec.ofChange s with cond := some small } : OpenSpec).vars = [] from hvars] at hV
  obtain ⟨rfl, rfl⟩ := trodVars_none hV
  have hk := hsm _ (hcond small rfl)
  rw [List.append_nil] at hk
  have hl : ds.length = fn.params.size := by
    have key : ∀ (ts : List TypeId) (vs : List Value) (ds : List (DataW H)) (ps : List MemPlace), DataW.TrodAll enc C.prog W 0 (fun _ => true) true ts vs ds ps → ds.length = ts.length := by
      intro ts
      induction ts with
      | nil => intro vs ds ps h; obtain ⟨_, rfl, _⟩ := trodAll_nil h; rfl
      | cons t ts ih =>
        intro vs ds ps h
        obtain ⟨v, vs', d, ds', p, q, _, rfl, _, _, hr⟩ := trodAll_cons h
        rw [List.length_cons, List.length_cons, ih _ _ _ hr]
    rw [key _ _ _ _ hA, Array.length_toList]
  obtain ⟨x, xb, xr, xk⟩ := open_argsB B τs fn.params.toList args.toList ds p htys (fun j t v ht hv => hval j t v (by rw [← Array.getElem?_toList]; exact ht) (by rw [← Array.getElem?_toList]; exact hv)) hA
  have hc := walk_of (hcall x xb (Nat.le_trans xk hk)) args.toList W xr
  rw [Array.toArray_toList] at hc
  refine hc.mono fun e W' ⟨he, bel⟩ => ?_
  subst he
  refine ⟨_, rfl, ds, [], p ++ [], [], p, [], hW', ?_⟩
  show DataW.TrodAll _ _ _ _ _ _ _ _ _ _ ∧ _
  rw [List.append_nil, show ((OpenSpec.at { OpenSpec.ofChange s with cond := some small } F).fn H ds) = s.fn H ds from rfl, hspec ds hl, hres]
  exact ⟨trodAll_mk1 (shut_bool hbool _), stay_args laid bel _ _ _ _ hread hA, (by rw [show ((OpenSpec.at { OpenSpec.ofChange s with cond := some small } F).vars) = [] from hvars]; rfl), bel.frame _, fun h => by cases h⟩
end Go.Sym
/- Inputs of a small bulk are small. -/
namespace Go.Sym
theorem sum_ge (l : List Fld) (f : Fld → Nat) (hf : ∀ x, x.1.length + x.2.length + 1 ≤ f x) : l.length ≤ (l.map f).sum ∧ ∀ x ∈ l, x.1.length + x.2.length ≤ (l.map f).sum := by
  induction l with
  | nil => exact ⟨Nat.le_refl _, fun x h => by cases h⟩
  | cons y l ih =>
    have hy := hf y
    refine ⟨by simp only [List.length_cons, List.map_cons, List.sum_cons]; omega, fun x hx => ?_⟩
    rw [List.map_cons, List.sum_cons]
    rcases List.mem_cons.1 hx with rfl | hx
    · omega
    · have := ih.2 x hx; omega
theorem sum_byte : ∀ b : List UInt8, (List.map (Ty.byte.bk : Ty.byte.den → Nat) b).sum = b.length
  | [] => rfl
  | c :: b => by
    show 1 + (List.map (Ty.byte.bk : Ty.byte.den → Nat) b).sum = b.length + 1
    rw [sum_byte b]; omega
def fldBk (x : Fld) : Nat := (x.1.length + 1) + (x.2.length + 1)
theorem SmM_of (l : List Fld) (b : List UInt8) (h : ((l.map fldBk).sum + 1) + (b.length + 1) ≤ 1048576) : SmM (l, b) := by
  obtain ⟨h1, h2⟩ := sum_ge l fldBk (fun x => by unfold fldBk; omega)
  refine ⟨⟨by simp only; omega, fun x hx => ?_⟩, by simp only; omega⟩
  have := h2 x hx
  omega
/-- a message of a small bulk -/
theorem SmM_bk (m : List Fld × List UInt8) (h : (Ty.prod (.list (.prod .str .str)) (.list .byte)).bk m ≤ 1048576) : SmM m := by
  obtain ⟨l, b⟩ := m
  have h : ((l.map fldBk).sum + 1) + ((List.map (Ty.byte.bk : Ty.byte.den → Nat) b).sum + 1) ≤ 1048576 := h
  rw [sum_byte] at h
  exact SmM_of l b h
end Go.Sym
