/- slices.Sort over ints: in place. The contract of the library's sort is the kit's. -/
import Derived.Shelf.Sort.Plain
import Derived.Shelf.Slices.In.SortNone
import Derived.Test.YtlfafgmhjplbeaaProg
import Derived.Test.YtlfafgmhjplbeaaSymQ
namespace Go.Proofs
open Go.Shelf
def Try.lays189_ren : Go.Shelf.Ren := ⟨fun | 189 => 49 | 125 => 75 | 257 => 74 | 128 => 95 | 129 => 96 | 294 => 87 | 295 => 88 | 296 => 89 | 297 => 90 | 298 => 91 | 299 => 92 | 216 => 80 | 300 => 93 | 301 => 94 | 328 => 101 | 329 => 102 | 330 => 103 | 331 => 104 | 332 => 105 | 215 => 99 | 343 => 107 | n => n, fun | 28 => 35 | 3 => 3 | 46 => 92 | 0 => 0 | 51 => 106 | 53 => 108 | 4 => 4 | 183 => 100 | 182 => 99 | 131 => 79 | 5 => 5 | 9 => 9 | 218 => 110 | 222 => 114 | 228 => 117 | 229 => 70 | n => n, fun | n => n⟩
theorem Try.lays189 : Go.Proofs.Lays.n189 Try.prog Try.lays189_ren := {
  mixed := by kernel_rfl
  f125 := Try.func75.trans (congrArg some (by kernel_rfl))
  f128 := Try.func95.trans (congrArg some (by kernel_rfl))
  f129 := Try.func96.trans (congrArg some (by kernel_rfl))
  f189 := Try.func49.trans (congrArg some (by kernel_rfl))
  f215 := Try.func99.trans (congrArg some (by kernel_rfl))
  f216 := Try.func80.trans (congrArg some (by kernel_rfl))
  f257 := Try.func74.trans (congrArg some (by kernel_rfl))
  f294 := Try.func87.trans (congrArg some (by kernel_rfl))
  f295 := Try.func88.trans (congrArg some (by kernel_rfl))
  f296 := Try.func89.trans (congrArg some (by kernel_rfl))
  f297 := Try.func90.trans (congrArg some (by kernel_rfl))
  f298 := Try.func91.trans (congrArg some (by kernel_rfl))
  f299 := Try.func92.trans (congrArg some (by kernel_rfl))
  f300 := Try.func93.trans (congrArg some (by kernel_rfl))
  f301 := Try.func94.trans (congrArg some (by kernel_rfl))
  f328 := Try.func101.trans (congrArg some (by kernel_rfl))
  f329 := Try.func102.trans (congrArg some (by kernel_rfl))
  f330 := Try.func103.trans (congrArg some (by kernel_rfl))
  f331 := Try.func104.trans (congrArg some (by kernel_rfl))
  f332 := Try.func105.trans (congrArg some (by kernel_rfl))
  f343 := Try.func107.trans (congrArg some (by kernel_rfl))
  t0 := Try.underlying0
  a0 := Try.isAgg0
  z0 := Try.sizeOf0
  v0 := Try.zeroValue0
  t3 := Try.underlying3
  a3 := Try.isAgg3
  z3 := Try.sizeOf3
  v3 := Try.zeroValue3
  t4 := Try.underlying4
  a4 := Try.isAgg4
  z4 := Try.sizeOf4
  v4 := Try.zeroValue4
  t5 := Try.underlying5
  a5 := Try.isAgg5
  z5 := Try.sizeOf5
  v5 := Try.zeroValue5
  t9 := Try.underlying9
  a9 := Try.isAgg9
  z9 := Try.sizeOf9
  v9 := Try.zeroValue9
  t28 := Try.underlying35
  a28 := Try.isAgg35
  z28 := Try.sizeOf35
  v28 := Try.zeroValue35
  t46 := Try.underlying92
  a46 := Try.isAgg92
  z46 := Try.sizeOf92
  v46 := Try.zeroValue92
  t51 := Try.underlying106
  a51 := Try.isAgg106
  z51 := Try.sizeOf106
  v51 := Try.zeroValue106
  t53 := Try.underlying108
  a53 := Try.isAgg108
  z53 := Try.sizeOf108
  v53 := Try.zeroValue108
  t131 := Try.underlying79
  a131 := Try.isAgg79
  z131 := Try.sizeOf79
  v131 := Try.zeroValue79
  t182 := Try.underlying99
  a182 := Try.isAgg99
  z182 := Try.sizeOf99
  v182 := Try.zeroValue99
  t183 := Try.underlying100
  a183 := Try.isAgg100
  z183 := Try.sizeOf100
  v183 := Try.zeroValue100
  t218 := Try.underlying110
  a218 := Try.isAgg110
  z218 := Try.sizeOf110
  v218 := Try.zeroValue110
  t222 := Try.underlying114
  a222 := Try.isAgg114
  z222 := Try.sizeOf114
  v222 := Try.zeroValue114
  t228 := Try.underlying117
  a228 := Try.isAgg117
  z228 := Try.sizeOf117
  v228 := Try.zeroValue117
  t229 := Try.underlying70
  a229 := Try.isAgg70
  z229 := Try.sizeOf70
  v229 := Try.zeroValue70 }
open Go.Sort Go.RowKit in
theorem Try.slices_Sort_int (blk off cap : Nat) (zs : List Int) (w : World) (hH : Holds (Value.int .i64) w blk off zs.toArray) (hblk : blk < w.heap.size) (hsz : zs.length < 4611686018427387904) :
    Calls Try.prog 49 #[.slice (some ⟨blk, off, none⟩) zs.length cap] w fun e w' =>
      e = .returned (.tuple #[]) ∧ ∃ n os, w' = grow (putRow (Value.int .i64) (Sort.ahead w n) blk off (zs.mergeSort fun x y => decide (x ≤ y)).toArray) os := Any.slices_Sort_int Try.lays189 blk off cap zs w hH hblk hsz
/-- .. and plain. (LAID: no walk: one application.) -/
theorem Try.slices_Sort_int_none (p : Option Addr) (cap : Nat) (w : World) :
    Calls Try.prog 49 #[.slice p 0 cap] w fun e w' => e = .returned (.tuple #[]) ∧ w' = w := Any.slices_Sort_int_none Try.lays189 p cap w
end Go.Proofs
namespace Go.Sym
open Go.Proofs Go.Sort Go.RowKit

theorem put_heap (w : World) (n g : Nat) (d : Array Int) (os : Array Obj) (k : Nat) (hk : k < w.heap.size) (hne : k ≠ g) : (grow (putRow (Value.int .i64) (Sort.ahead w n) g 0 d) os).heap[k]? = w.heap[k]? := by
  show ((w.heap.modify g (onCells (putCells (Value.int .i64) 0 d))) ++ os)[k]? = _
  rw [Array.getElem?_append_left (by simpa using hk), Array.getElem?_modify, if_neg (by omega)]
theorem put_own (w : World) (n g : Nat) (d : Array Int) (os : Array Obj) {cur : Array Value} {e : TypeId} {fr : Nat × Nat} (hh : w.heap[g]? = some (.cells cur e fr)) :
    (grow (putRow (Value.int .i64) (Sort.ahead w n) g 0 d) os).heap[g]? = some (.cells (putCells (Value.int .i64) 0 d cur) e fr) := by
  have hg : g < w.heap.size := (Array.getElem?_eq_some_iff.1 hh).1
  show ((w.heap.modify g (onCells (putCells (Value.int .i64) 0 d))) ++ os)[g]? = _
  rw [Array.getElem?_append_left (by simpa using hg), Array.getElem?_modify, if_pos rfl, hh]
  rfl
theorem put_take (zs : List Int) (cur : Array Value) (h : zs.length ≤ cur.size) : (putCells (Value.int .i64) 0 zs.toArray cur).toList.take zs.length = zs.map (Value.int .i64) := by
  apply List.ext_getElem?
  intro j
  rw [List.getElem?_take, List.getElem?_map]
  by_cases hj : j < zs.length
  · rw [if_pos hj, Array.getElem?_toList]
    unfold putCells
    rw [Array.getElem?_mapIdx, Array.getElem?_eq_getElem (by omega)]
    simp [hj]
  · rw [if_neg hj, List.getElem?_eq_none (by omega)]; rfl
theorem put_size (w : World) (n g : Nat) (d : Array Int) (os : Array Obj) : w.heap.size ≤ (grow (putRow (Value.int .i64) (Sort.ahead w n) g 0 d) os).heap.size := by
  show w.heap.size ≤ ((w.heap.modify g (onCells (putCells (Value.int .i64) 0 d))) ++ os).size
  simp
theorem put_cells (zs : List Int) (cur : Array Value) (v : Value) (hv : v ∈ (putCells (Value.int .i64) 0 zs.toArray cur).toList) : v ∈ cur.toList ∨ ∃ n, v = .int .i64 n := by
  unfold putCells at hv
  rw [Array.mem_toList_iff, Array.mem_mapIdx] at hv
  obtain ⟨j, hj, rfl⟩ := hv
  split
  · exact .inr ⟨_, rfl⟩
  · exact .inl (by simp)

theorem flat_encI : ∀ (l : List Int), l.flatMap Go.Sym.encI = l.map (AV.int .i64)
  | [] => rfl
  | c :: b => by rw [List.flatMap_cons, flat_encI b]; rfl
theorem reps_ints {G : Gh} : ∀ {l : List Int} {us : List Value}, Reps (l.map (AV.int .i64)) G us → us = l.map (Value.int .i64)
  | [], [], _ => rfl
  | c :: b, u :: us, h => by
    have h1 : u = .int .i64 c := h.1
    rw [List.map_cons, ← reps_ints h.2, h1]
  | [], _ :: _, h => h.elim
  | _ :: _, [], h => h.elim
theorem reps_ints' {G : Gh} : ∀ (l : List Int), Reps (l.map (AV.int .i64)) G (l.map (Value.int .i64))
  | [] => trivial
  | _ :: b => ⟨rfl, reps_ints' b⟩

theorem sort_ok (l : List Int) (hlen : l.length ≤ rowMax) : InPlace Try.prog 49 (Box.row 1 Go.Sym.encI l 3) (Box.row 1 Go.Sym.encI (sorted l) 3) := by
  unfold rowMax at hlen
  refine ⟨rfl, rfl, sorted_length l, fun _ _ => rfl, fun w G ad c us hrow hreps => ?_⟩
  rw [flat_encI] at hreps ⊢
  have hus := reps_ints hreps
  obtain ⟨hul, hrow⟩ := hrow
  rcases hrow with ⟨rfl, h2, rfl⟩ | ⟨g, vs, fz, rfl, h2, h3, h4, h5, h6, h7, h8⟩
  · have hl : l = [] := List.eq_nil_of_length_eq_zero h2
    subst hl
    refine (Try.slices_Sort_int_none none 0 w).mono ?_
    rintro e w' ⟨rfl, rfl⟩
    exact ⟨rfl, us, ⟨hul, .inl ⟨rfl, rfl, rfl⟩⟩, by rw [hus]; simp [sorted, Reps], ⟨rfl, rfl, rfl, Nat.le_refl _, fun _ _ _ => rfl⟩⟩
  · by_cases hne : l = []
    · subst hne
      refine (Try.slices_Sort_int_none (some ⟨g, 0, none⟩) c w).mono ?_
      rintro e w' ⟨rfl, rfl⟩
      exact ⟨rfl, us, ⟨hul, .inr ⟨g, vs, fz, rfl, h2, h3, h4, h5, h6, h7, h8⟩⟩, by rw [hus]; simp [sorted, Reps], ⟨rfl, rfl, rfl, Nat.le_refl _, fun _ _ _ => rfl⟩⟩
    · have hlt : g < w.heap.size := (Array.getElem?_eq_some_iff.1 h2).1
      rw [Nat.mul_one] at h6 h7
      have hH : Holds (Value.int .i64) w g 0 l.toArray := by
        intro j hj
        have hj' : j < l.length := by simpa using hj
        have hjv : j < vs.size := by omega
        refine ⟨?_, ?_⟩
        · have hc : (vs.toList.take l.length)[j]? = some (.int .i64 l[j]) := by
            rw [h7, hus, List.getElem?_map, List.getElem?_eq_getElem hj']; rfl
          rw [List.getElem?_take, if_pos hj'] at hc
          simp only [World.cell?, h2, Nat.zero_add]
          simpa [hj'] using hc
        · simp only [World.frozen?, h2]
          rcases h3 with rfl | h3
          · simp
          · simp; omega
      refine (Try.slices_Sort_int g 0 c l w hH hlt (by omega)).mono ?_
      rintro e w' ⟨rfl, n, os, rfl⟩
      have hl := sorted_length l
      refine ⟨rfl, (sorted l).map (Value.int .i64), ⟨by simp [hl], .inr ⟨g, putCells (Value.int .i64) 0 (sorted l).toArray vs, fz, rfl, put_own w n g _ os h2, ?_, h4, h5, ?_, ?_, ?_⟩⟩, reps_ints' _, ⟨rfl, rfl, rfl, put_size w n g _ os, fun k hk hne => put_heap w n g _ os k hk (fun e => hne (by subst e; rfl))⟩⟩
      · have : (putCells (Value.int .i64) 0 (sorted l).toArray vs).size = vs.size := by unfold putCells; rw [Array.size_mapIdx]
        rw [this]; exact h3
      · unfold putCells; rw [Array.size_mapIdx]; omega
      · rw [Nat.mul_one, ← hl]; exact put_take _ vs (by rw [hl]; omega)
      · intro v hv
        rcases put_cells _ _ _ hv with h | ⟨m, rfl⟩
        · exact h8 v h
        · rfl
end Go.Sym
