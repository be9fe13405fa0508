/- slices.Sort and slices.Compact of numbers. -/
import Derived.Shelf.Sort.Plain
import Derived.Shelf.Slices.In.SortNone
import Derived.Shelf.Slices.CompactI
import Derived.Test.YtmkeeghjpdnknaaTy
import Derived.Test.YtmkeeghjpdnknaaBa
import Derived.Test.YtmkeeghjpdnknaaVz
namespace Go.Proofs.Ytmkeeghjpdnknaa
set_option linter.all false
open Go.Shelf Go.RowKit Go.Lib Go.Sort
def lays189_ren : Go.Shelf.Ren := ⟨fun | 189 => 48 | 125 => 68 | 257 => 67 | 128 => 91 | 129 => 92 | 294 => 82 | 295 => 83 | 296 => 84 | 297 => 85 | 298 => 86 | 299 => 87 | 216 => 88 | 300 => 89 | 301 => 90 | 328 => 94 | 329 => 95 | 330 => 96 | 331 => 97 | 332 => 98 | 215 => 99 | 343 => 102 | n => n, fun | 28 => 57 | 3 => 3 | 46 => 96 | 0 => 0 | 51 => 114 | 53 => 71 | 4 => 4 | 183 => 107 | 182 => 106 | 131 => 111 | 5 => 5 | 9 => 9 | 218 => 118 | 222 => 122 | 228 => 125 | 229 => 116 | n => n, fun | n => n⟩
theorem lays189 : Go.Proofs.Lays.n189 Try.prog lays189_ren := {
  mixed := by kernel_rfl
  f125 := Try.func68.trans (congrArg some (by kernel_rfl))
  f128 := Try.func91.trans (congrArg some (by kernel_rfl))
  f129 := Try.func92.trans (congrArg some (by kernel_rfl))
  f189 := Try.func48.trans (congrArg some (by kernel_rfl))
  f215 := Try.func99.trans (congrArg some (by kernel_rfl))
  f216 := Try.func88.trans (congrArg some (by kernel_rfl))
  f257 := Try.func67.trans (congrArg some (by kernel_rfl))
  f294 := Try.func82.trans (congrArg some (by kernel_rfl))
  f295 := Try.func83.trans (congrArg some (by kernel_rfl))
  f296 := Try.func84.trans (congrArg some (by kernel_rfl))
  f297 := Try.func85.trans (congrArg some (by kernel_rfl))
  f298 := Try.func86.trans (congrArg some (by kernel_rfl))
  f299 := Try.func87.trans (congrArg some (by kernel_rfl))
  f300 := Try.func89.trans (congrArg some (by kernel_rfl))
  f301 := Try.func90.trans (congrArg some (by kernel_rfl))
  f328 := Try.func94.trans (congrArg some (by kernel_rfl))
  f329 := Try.func95.trans (congrArg some (by kernel_rfl))
  f330 := Try.func96.trans (congrArg some (by kernel_rfl))
  f331 := Try.func97.trans (congrArg some (by kernel_rfl))
  f332 := Try.func98.trans (congrArg some (by kernel_rfl))
  f343 := Try.func102.trans (congrArg some (by kernel_rfl))
  t0 := Try.underlying0
  a0 := Try.isAgg0
  z0 := Try.sizeOf0
  v0 := Try.zeroValue0
  t3 := Try.underlying3
  a3 := Try.isAgg3
  z3 := Try.sizeOf3
  v3 := Try.zeroValue3
  t4 := Try.underlying4
  a4 := Try.isAgg4
  z4 := Try.sizeOf4
  v4 := Try.zeroValue4
  t5 := Try.underlying5
  a5 := Try.isAgg5
  z5 := Try.sizeOf5
  v5 := Try.zeroValue5
  t9 := Try.underlying9
  a9 := Try.isAgg9
  z9 := Try.sizeOf9
  v9 := Try.zeroValue9
  t28 := Try.underlying57
  a28 := Try.isAgg57
  z28 := Try.sizeOf57
  v28 := Try.zeroValue57
  t46 := Try.underlying96
  a46 := Try.isAgg96
  z46 := Try.sizeOf96
  v46 := Try.zeroValue96
  t51 := Try.underlying114
  a51 := Try.isAgg114
  z51 := Try.sizeOf114
  v51 := Try.zeroValue114
  t53 := Try.underlying71
  a53 := Try.isAgg71
  z53 := Try.sizeOf71
  v53 := Try.zeroValue71
  t131 := Try.underlying111
  a131 := Try.isAgg111
  z131 := Try.sizeOf111
  v131 := Try.zeroValue111
  t182 := Try.underlying106
  a182 := Try.isAgg106
  z182 := Try.sizeOf106
  v182 := Try.zeroValue106
  t183 := Try.underlying107
  a183 := Try.isAgg107
  z183 := Try.sizeOf107
  v183 := Try.zeroValue107
  t218 := Try.underlying118
  a218 := Try.isAgg118
  z218 := Try.sizeOf118
  v218 := Try.zeroValue118
  t222 := Try.underlying122
  a222 := Try.isAgg122
  z222 := Try.sizeOf122
  v222 := Try.zeroValue122
  t228 := Try.underlying125
  a228 := Try.isAgg125
  z228 := Try.sizeOf125
  v228 := Try.zeroValue125
  t229 := Try.underlying116
  a229 := Try.isAgg116
  z229 := Try.sizeOf116
  v229 := Try.zeroValue116 }

def lays20_ren : Go.Shelf.Ren := ⟨fun | 20 => 49 | n => n, fun | 22 => 57 | 3 => 3 | 4 => 4 | 0 => 0 | n => n, fun | n => n⟩
theorem lays20 : Go.Proofs.Lays2.n20 Try.prog lays20_ren := {
  mixed := by kernel_rfl
  f20 := Try.func49.trans (congrArg some (by kernel_rfl))
  t0 := Try.underlying0
  a0 := Try.isAgg0
  z0 := Try.sizeOf0
  v0 := Try.zeroValue0
  t3 := Try.underlying3
  a3 := Try.isAgg3
  z3 := Try.sizeOf3
  v3 := Try.zeroValue3
  t4 := Try.underlying4
  a4 := Try.isAgg4
  z4 := Try.sizeOf4
  v4 := Try.zeroValue4
  t22 := Try.underlying57
  a22 := Try.isAgg57
  z22 := Try.sizeOf57
  v22 := Try.zeroValue57
  i3 := by kernel_rfl }

namespace AM
section
variable {α : Type} [Inhabited α] {enc : α → Value}
theorem take_putP (cur : Array Value) (ts rest : List α) (h : (ts ++ rest).length ≤ cur.size) : (putCells enc 0 (ts ++ rest).toArray cur).toList.take ts.length = ts.map enc := by
  rw [List.length_append] at h
  apply List.ext_getElem?
  intro j
  by_cases hj : j < ts.length
  · rw [List.getElem?_take_of_lt hj, Array.getElem?_toList]
    have h1 : j < ts.length + rest.length := by omega
    simp [putCells, hj, h1, show j < cur.size by omega, List.getElem_append_left hj]
  · rw [List.getElem?_take_eq_none (by omega), List.getElem?_eq_none (by simp; omega)]
/-- A row of which the head is kept. -/
theorem rowTurnedP {w : World} {g cap n : Nat} {e : TypeId} {cur : Array Value} {ys rest : List α} (hl : (ys ++ rest).length ≤ cur.size) (hb : w.heap[g]? = some (.cells cur e (0, 0)))
    (h1 : ys.length ≤ cap) (h2 : cap ≤ maxLen) (h3 : cur.size = cap * 1) : RowTurned w (putRow enc (Sort.ahead w n) g 0 (ys ++ rest).toArray) g e 1 ys.length cap (ys.map enc) := by
  have e0 : grow (putRow enc (Sort.ahead w n) g 0 (ys ++ rest).toArray) #[] = putRow enc (Sort.ahead w n) g 0 (ys ++ rest).toArray := grow_empty _
  have hh := heap_put (enc := enc) (os := #[]) (n := n) (ys ++ rest).toArray hb
  rw [e0] at hh
  refine ⟨rfl, rfl, rfl, by simp [putRow, mapBlock, Sort.ahead], fun k hne hk => ?_, by simp, .inr ⟨g, cap, _, rfl, Nat.zero_le _, hh, h1, h2, by simp [putCells, h3], by rw [Nat.mul_one]; exact take_putP cur ys rest hl⟩⟩
  simp [putRow, mapBlock, Sort.ahead, Array.getElem?_modify, Ne.symm hne]
end
theorem flat_get' {α β : Type} {enc : α → List β} {k : Nat} (hk : ∀ x, (enc x).length = k) : ∀ {ys : List α} {q m : Nat} (hq : q < ys.length), m < k → (ys.flatMap enc)[q * k + m]? = (enc ys[q])[m]?
  | [], _, _, hq, _ => by simp at hq
  | y :: ys, 0, m, _, hm => by
    rw [List.flatMap_cons, Nat.zero_mul, Nat.zero_add, List.getElem?_append_left (by rw [hk]; exact hm)]
    rfl
  | y :: ys, q + 1, m, hq, hm => by
    rw [List.flatMap_cons, List.getElem?_append_right (by rw [hk, Nat.succ_mul]; omega), hk]
    have : (q + 1) * k + m - k = q * k + m := by rw [Nat.succ_mul]; omega
    rw [this, flat_get' hk (by simpa using hq) hm]
    rfl
end AM
theorem sortI : AM.RowFn Try.prog 48 [] 3 1 (fun z : Int => [Value.int .i64 z]) false (fun zs ys => ys = AM.sorted' zs) := by
  have hfm : ∀ ys : List Int, ys.flatMap (fun z => [Value.int .i64 z]) = ys.map (Value.int .i64) := fun ys => by induction ys <;> simp_all
  refine ⟨fun blk cap zs w hsz hrow => ?_, fun w => ?_⟩
  · rcases hrow.2 with ⟨h, _⟩ | ⟨g', cap', cur, hv, _, hb, h1, h2, h3, h4⟩
    · cases h
    cases hv
    rw [hfm, Nat.mul_one] at h4
    simp only [hfm]
    have hH := AM.holds_of_row (enc := Value.int .i64) (ss := zs) hb h4
    have hblk : blk < w.heap.size := (Array.getElem?_eq_some_iff.1 hb).1
    have hS := Any.slices_Sort_int lays189 blk 0 cap zs w hH hblk hsz
    refine Calls.mono (show Calls Try.prog 48 #[.slice (some ⟨blk, 0, none⟩) zs.length cap] _ _ from hS) fun e w' he => ?_
    obtain ⟨rfl, n, os, rfl⟩ := he
    have hl : (AM.sorted' zs).length = zs.length := by simp [AM.sorted']
    exact ⟨_, rfl, rfl, fun _ => hl, by rw [hl]; exact AM.rowTurned hl hb h1 h2 h3⟩
  · have hS := Any.slices_Sort_int_none lays189 none 0 w
    refine Calls.mono (show Calls Try.prog 48 #[.slice none 0 0] _ _ from hS) fun e w' he => ?_
    obtain ⟨rfl, rfl⟩ := he
    exact ⟨by simp [AM.sorted'], rfl, Go.RowKit.Below.refl _ _⟩
theorem compactI : AM.RowFn Try.prog 49 [] 3 1 (fun z : Int => [Value.int .i64 z]) true (fun zs ys => ys = Lib.compact zs) := by
  have hfm : ∀ ys : List Int, ys.flatMap (fun z => [Value.int .i64 z]) = ys.map (Value.int .i64) := fun ys => by induction ys <;> simp_all
  refine ⟨fun blk cap zs w hsz hrow => ?_, fun w => ?_⟩
  · rcases hrow.2 with ⟨h, _⟩ | ⟨g', cap', cur, hv, _, hb, h1, h2, h3, h4⟩
    · cases h
    cases hv
    rw [hfm, Nat.mul_one] at h4
    simp only [hfm]
    have hH := AM.holds_of_row (enc := Value.int .i64) (ss := zs) hb h4
    have hS := Any.slices_Compact_int lays20 blk 0 cap zs w hH (by omega) h1
    refine Calls.mono (show Calls Try.prog 49 #[.slice (some ⟨blk, 0, none⟩) zs.length cap] _ _ from hS) fun e w' he => ?_
    obtain ⟨rfl, q, rfl⟩ := he
    have hc : (Lib.compact zs).length ≤ zs.length := by
      unfold Lib.compact Lib.compactUpTo
      rw [List.length_map]
      have := List.length_filter_le (Lib.keeps zs.toArray) (List.range zs.length)
      simpa using this
    exact ⟨_, rfl, rfl, (fun h => by cases h), AM.rowTurnedP (by simp; omega) hb (by omega) h2 h3⟩
  · have hS := Any.slices_Compact_int_empty lays20 none 0 w
    refine Calls.mono (show Calls Try.prog 49 #[.slice none 0 0] _ _ from hS) fun e w' he => ?_
    obtain ⟨rfl, rfl⟩ := he
    exact ⟨by simp [Lib.compact, Lib.compactUpTo], rfl, Go.RowKit.Below.refl _ _⟩
end Go.Proofs.Ytmkeeghjpdnknaa
namespace Go.Proofs.Ytmkeeghjpdnknaa
set_option linter.all false
open Go.RowKit AM Can
theorem flat_take_succ {α β : Type} {f : α → List β} {xs : List α} {k : Nat} (h : k < xs.length) : (xs.take (k + 1)).flatMap f = (xs.take k).flatMap f ++ f xs[k] := by
  rw [List.take_succ_eq_append_getElem h, List.flatMap_append]
  simp
theorem ends_len2 {α : Type} {f g : α → Int} : ∀ xs : List α, (xs.flatMap fun r => [f r, g r]).length = 2 * xs.length
  | [] => rfl
  | x :: xs => by
    rw [List.flatMap_cons, List.length_append, ends_len2 xs]
    simp
    omega
theorem scs_int (zs : List Int) : scs (fun z : Int => [Value.int .i64 z]) zs = ints zs := by
  unfold scs ints
  induction zs with
  | nil => rfl
  | cons z zs ih =>
    rw [List.flatMap_cons, ih]
    rfl
end Go.Proofs.Ytmkeeghjpdnknaa
