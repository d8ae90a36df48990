/- What the claim rests on, part 7: gathered texts. -/
import Derived.Handed
import Derived.Test.YtlfafgmhjplbeaaSyB6
/- A law's claim out of its plain proof: the function hands back true at all plain data that its arguments may stand for. -/
namespace Go.Sym
open Go.ChangeShapes Go.WideShapes Go.ChangeAt Go.RowKit
variable [LC]

omit [LC] in
theorem lt63 {n : Nat} (h : n ≤ maxLen) : (n : Int) < 9223372036854775808 := by unfold maxLen at h; omega
def tysOk (P : Program) (n : Nat) : List Ty → List TypeId → Bool
  | [], [] => true
  | τ :: τs, t :: ts => tyOk P n τ t && tysOk P n τs ts
  | _, _ => false
/-- what the arguments are bound to -/
def bds : (τs : List Ty) → Pts.den (τs.map .h) → Prop
  | [], _ => True
  | τ :: τs, x => τ.bd x.1 ∧ bds τs x.2
section
variable {H : Type} {enc : TypeId × Value → H} {P : Program} {w : World} {base : Nat} {spare : Nat → Bool} {held : Bool}
omit [LC] in
theorem open_args {r : Reach} {bb n : Nat} : ∀ (τs : List Ty) (ts : List TypeId) (vs : List Value) (ds : List (DataW H)) (ps : List MemPlace), tysOk P n τs ts = true →
    (∀ (j : Nat) t v, ts[j]? = some t → vs[j]? = some v → Value.okWide P w r bb t v) → DataW.TrodAll enc P w base spare held ts vs ds ps →
    ∃ x : Pts.den (τs.map .h), bds τs x ∧ Reps (Pts.put (τs.map .h) x) (Gw w) vs
  | [], [], vs, ds, ps, _, _, h => by
    obtain ⟨rfl, _, _⟩ := trodAll_nil h
    exact ⟨(), trivial, trivial⟩
  | τ :: τs, t :: ts, vs, ds, ps, h1, h2, h => by
    obtain ⟨v, vs', d, ds', p, q, rfl, rfl, rfl, hd, hr⟩ := trodAll_cons h
    simp only [tysOk, Bool.and_eq_true] at h1
    obtain ⟨x, xb, xr⟩ := open_arg h1.1 (h2 0 t v rfl rfl) hd
    obtain ⟨y, yb, yr⟩ := open_args τs ts vs' ds' q h1.2 (fun j t v ht hv => h2 (j + 1) t v ht hv) hr
    exact ⟨(x, y), ⟨xb, yb⟩, xr, yr⟩
  | [], _ :: _, _, _, _, h, _, _ => by simp [tysOk] at h
  | _ :: _, [], _, _, _, h, _, _ => by simp [tysOk] at h
omit [LC] in
theorem stay_args {W W' : World} (laid : laidOutB P = true) (hb : Below W.heap.size W W') : ∀ (ts : List TypeId) (vs : List Value) (ds : List (DataW H)) (ps : List MemPlace),
    ts.all (fun t => P.readableRec t && decide (t < P.types.size)) = true → DataW.TrodAll enc P W 0 (fun _ => true) true ts vs ds ps → DataW.TrodAll enc P W' 0 (fun b => decide (b < W.heap.size)) true ts vs ds ps
  | [], vs, ds, ps, _, h => by
    obtain ⟨rfl, rfl, rfl⟩ := trodAll_nil h
    exact trodAll_mk0
  | t :: ts, vs, ds, ps, h1, h => by
    obtain ⟨v, vs', d, ds', p, q, rfl, rfl, rfl, hd, hr⟩ := trodAll_cons h
    simp only [List.all_cons, Bool.and_eq_true, decide_eq_true_eq] at h1
    have lt : ∀ x ∈ p, x.block < W.heap.size := by obtain ⟨m, hm⟩ := hd; exact DataW.trod_lt m _ _ _ hm
    exact trodAll_cons_mk (Below.trod laid h1.1.1 h1.1.2 hd hb lt) (stay_args laid hb ts vs' ds' q h1.2 hr)
end
theorem walk_of {P : Program} {f : FuncId} {xs : List AV} (h : CallsTo P f xs [] (.bool true) []) (vs : List Value) (w : World) (hr : Reps xs (Gw w) vs) :
    Calls P f vs.toArray w fun e w' => e = .returned (.bool true) ∧ Below w.heap.size w w' := by
  refine (h w (Gw w) vs (Gw_mem w) hr).mono ?_
  rintro e w' ⟨v, G, rfl, hfin, hrep⟩
  have hv : v = .bool true := hrep
  subst hv
  refine ⟨rfl, hfin.bel.os, hfin.bel.tape, hfin.bel.output, hfin.bel.size, fun k hk => hfin.bel.block k hk ?_⟩
  rintro ⟨n, bx, hl, _⟩
  cases hl
theorem lifted {H : Type} {enc : TypeId × Value → H} {C : Checked} {os : Os} {f : FuncId} {fn : Func} {s : ChangeSpec} {conds : List PathCond} {t : TypeId} {n : Nat} (τs : List Ty)
    (own : ownKnob C.prog.godebug = none) (laid : laidOutB C.prog = true) (started : os.Started) (noInit : C.prog.inits.idxOf? f = none) (hfn : C.prog.funcs[f]? = some fn)
    (witness : ∃ (w : World) (tape : Tape) (i : Input), w.os = os ∧ (w.forCall tape i).Shaped C.prog ∧ i.vars = [] ∧ Input.okWide C.prog (w.forCall tape i) .any w.heap.size f i ∧
      s.pre6 enc C.prog fn conds false (w.forCall tape i).memory i.args ∧ ({} : Assume).holds C.prog (lone (Frame.enter C.prog f i.args .normal) [] (w.forCall tape i)))
    (hvars : s.vars = []) (hspec : ∀ ds : List (DataW H), ds.length = fn.params.size → s.fn H ds = { results := [.lit (.bool true)], args := ds })
    (htys : tysOk C.prog n τs fn.params.toList = true) (hread : fn.params.toList.all (fun t => C.prog.readableRec t && decide (t < C.prog.types.size)) = true)
    (hres : fn.resultTypes = #[t]) (hbool : C.prog.underlying t = some .bool)
    (hcall : ∀ x : Pts.den (τs.map .h), bds τs x → CallsTo C.prog f (Pts.put (τs.map .h) x) [] (.bool true) []) :
    ReturnsInHanded {} C os f .any (s.pre6 enc C.prog fn conds false) (s.post enc C.prog fn false true false false) := by
  refine returnsInHanded_of_change own started noInit hfn witness ?_
  intro W base args ds gs before hval hW _ _
  have hW' := hW
  obtain ⟨p, q, hA, hV, rfl, _, _⟩ := hW
  rw [hvars] at hV
  obtain ⟨rfl, rfl⟩ := trodVars_none hV
  have hl : ds.length = fn.params.size := by
    have key : ∀ (ts : List TypeId) (vs : List Value) (ds : List (DataW H)) (ps : List MemPlace), DataW.TrodAll enc C.prog W 0 (fun _ => true) true ts vs ds ps → ds.length = ts.length := by
      intro ts
      induction ts with
      | nil => intro vs ds ps h; obtain ⟨_, rfl, _⟩ := trodAll_nil h; rfl
      | cons t ts ih =>
        intro vs ds ps h
        obtain ⟨v, vs', d, ds', p, q, _, rfl, _, _, hr⟩ := trodAll_cons h
        rw [List.length_cons, List.length_cons, ih _ _ _ hr]
    rw [key _ _ _ _ hA, Array.length_toList]
  obtain ⟨x, xb, xr⟩ := open_args τs fn.params.toList args.toList ds p htys (fun j t v ht hv => hval j t v (by rw [← Array.getElem?_toList]; exact ht) (by rw [← Array.getElem?_toList]; exact hv)) hA
  have hc := walk_of (hcall x xb) args.toList W xr
  rw [Array.toArray_toList] at hc
  refine hc.mono fun e W' ⟨he, bel⟩ => ?_
  subst he
  refine ⟨_, rfl, ds, [], p ++ [], [], p, [], hW', ?_⟩
  rw [List.append_nil, hspec ds hl, hres, hvars]
  exact ⟨trodAll_mk1 (shut_bool hbool _), stay_args laid bel _ _ _ _ hread hA, rfl, bel.frame _, fun h => by cases h⟩
end Go.Sym
