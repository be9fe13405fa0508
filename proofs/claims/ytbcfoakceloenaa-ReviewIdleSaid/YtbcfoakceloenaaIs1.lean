/- slices.Sort and slices.Compact of numbers. -/
import Derived.Shelf.Sort.Plain
import Derived.Shelf.Slices.In.SortNone
import Derived.Shelf.Slices.CompactI
import Derived.Test.YtbcfoakceloenaaTy
import Derived.Test.YtbcfoakceloenaaBa
import Derived.Test.YtbcfoakceloenaaVz
namespace Go.Proofs.Ytbcfoakceloenaa
set_option linter.all false
open Go.Shelf Go.RowKit Go.Lib Go.Sort
def lays189_ren : Go.Shelf.Ren := ⟨fun | 189 => 73 | 125 => 86 | 257 => 85 | 128 => 99 | 129 => 100 | 294 => 90 | 295 => 91 | 296 => 92 | 297 => 93 | 298 => 94 | 299 => 95 | 216 => 96 | 300 => 97 | 301 => 98 | 328 => 102 | 329 => 103 | 330 => 104 | 331 => 105 | 332 => 106 | 215 => 107 | 343 => 109 | n => n, fun | 28 => 54 | 3 => 3 | 46 => 121 | 0 => 0 | 51 => 133 | 53 => 66 | 4 => 4 | 183 => 126 | 182 => 125 | 131 => 130 | 5 => 5 | 9 => 9 | 218 => 136 | 222 => 140 | 228 => 142 | 229 => 143 | n => n, fun | n => n⟩
theorem lays189 : Go.Proofs.Lays.n189 Try.prog lays189_ren := {
  mixed := by kernel_rfl
  f125 := Try.func86.trans (congrArg some (by kernel_rfl))
  f128 := Try.func99.trans (congrArg some (by kernel_rfl))
  f129 := Try.func100.trans (congrArg some (by kernel_rfl))
  f189 := Try.func73.trans (congrArg some (by kernel_rfl))
  f215 := Try.func107.trans (congrArg some (by kernel_rfl))
  f216 := Try.func96.trans (congrArg some (by kernel_rfl))
  f257 := Try.func85.trans (congrArg some (by kernel_rfl))
  f294 := Try.func90.trans (congrArg some (by kernel_rfl))
  f295 := Try.func91.trans (congrArg some (by kernel_rfl))
  f296 := Try.func92.trans (congrArg some (by kernel_rfl))
  f297 := Try.func93.trans (congrArg some (by kernel_rfl))
  f298 := Try.func94.trans (congrArg some (by kernel_rfl))
  f299 := Try.func95.trans (congrArg some (by kernel_rfl))
  f300 := Try.func97.trans (congrArg some (by kernel_rfl))
  f301 := Try.func98.trans (congrArg some (by kernel_rfl))
  f328 := Try.func102.trans (congrArg some (by kernel_rfl))
  f329 := Try.func103.trans (congrArg some (by kernel_rfl))
  f330 := Try.func104.trans (congrArg some (by kernel_rfl))
  f331 := Try.func105.trans (congrArg some (by kernel_rfl))
  f332 := Try.func106.trans (congrArg some (by kernel_rfl))
  f343 := Try.func109.trans (congrArg some (by kernel_rfl))
  t0 := Try.underlying0
  a0 := Try.isAgg0
  z0 := Try.sizeOf0
  v0 := Try.zeroValue0
  t3 := Try.underlying3
  a3 := Try.isAgg3
  z3 := Try.sizeOf3
  v3 := Try.zeroValue3
  t4 := Try.underlying4
  a4 := Try.isAgg4
  z4 := Try.sizeOf4
  v4 := Try.zeroValue4
  t5 := Try.underlying5
  a5 := Try.isAgg5
  z5 := Try.sizeOf5
  v5 := Try.zeroValue5
  t9 := Try.underlying9
  a9 := Try.isAgg9
  z9 := Try.sizeOf9
  v9 := Try.zeroValue9
  t28 := Try.underlying54
  a28 := Try.isAgg54
  z28 := Try.sizeOf54
  v28 := Try.zeroValue54
  t46 := Try.underlying121
  a46 := Try.isAgg121
  z46 := Try.sizeOf121
  v46 := Try.zeroValue121
  t51 := Try.underlying133
  a51 := Try.isAgg133
  z51 := Try.sizeOf133
  v51 := Try.zeroValue133
  t53 := Try.underlying66
  a53 := Try.isAgg66
  z53 := Try.sizeOf66
  v53 := Try.zeroValue66
  t131 := Try.underlying130
  a131 := Try.isAgg130
  z131 := Try.sizeOf130
  v131 := Try.zeroValue130
  t182 := Try.underlying125
  a182 := Try.isAgg125
  z182 := Try.sizeOf125
  v182 := Try.zeroValue125
  t183 := Try.underlying126
  a183 := Try.isAgg126
  z183 := Try.sizeOf126
  v183 := Try.zeroValue126
  t218 := Try.underlying136
  a218 := Try.isAgg136
  z218 := Try.sizeOf136
  v218 := Try.zeroValue136
  t222 := Try.underlying140
  a222 := Try.isAgg140
  z222 := Try.sizeOf140
  v222 := Try.zeroValue140
  t228 := Try.underlying142
  a228 := Try.isAgg142
  z228 := Try.sizeOf142
  v228 := Try.zeroValue142
  t229 := Try.underlying143
  a229 := Try.isAgg143
  z229 := Try.sizeOf143
  v229 := Try.zeroValue143 }

def lays20_ren : Go.Shelf.Ren := ⟨fun | 20 => 74 | n => n, fun | 22 => 54 | 3 => 3 | 4 => 4 | 0 => 0 | n => n, fun | n => n⟩
theorem lays20 : Go.Proofs.Lays2.n20 Try.prog lays20_ren := {
  mixed := by kernel_rfl
  f20 := Try.func74.trans (congrArg some (by kernel_rfl))
  t0 := Try.underlying0
  a0 := Try.isAgg0
  z0 := Try.sizeOf0
  v0 := Try.zeroValue0
  t3 := Try.underlying3
  a3 := Try.isAgg3
  z3 := Try.sizeOf3
  v3 := Try.zeroValue3
  t4 := Try.underlying4
  a4 := Try.isAgg4
  z4 := Try.sizeOf4
  v4 := Try.zeroValue4
  t22 := Try.underlying54
  a22 := Try.isAgg54
  z22 := Try.sizeOf54
  v22 := Try.zeroValue54
  i3 := by kernel_rfl }

namespace AM
section
variable {α : Type} [Inhabited α] {enc : α → Value}
theorem take_putP (cur : Array Value) (ts rest : List α) (h : (ts ++ rest).length ≤ cur.size) : (putCells enc 0 (ts ++ rest).toArray cur).toList.take ts.length = ts.map enc := by
  rw [List.length_append] at h
  apply List.ext_getElem?
  intro j
  by_cases hj : j < ts.length
  · rw [List.getElem?_take_of_lt hj, Array.getElem?_toList]
    have h1 : j < ts.length + rest.length := by omega
    simp [putCells, hj, h1, show j < cur.size by omega, List.getElem_append_left hj]
  · rw [List.getElem?_take_eq_none (by omega), List.getElem?_eq_none (by simp; omega)]
/-- A row of which the head is kept. -/
theorem rowTurnedP {w : World} {g cap n : Nat} {e : TypeId} {cur : Array Value} {ys rest : List α} (hl : (ys ++ rest).length ≤ cur.size) (hb : w.heap[g]? = some (.cells cur e (0, 0)))
    (h1 : ys.length ≤ cap) (h2 : cap ≤ maxLen) (h3 : cur.size = cap * 1) : RowTurned w (putRow enc (Sort.ahead w n) g 0 (ys ++ rest).toArray) g e 1 ys.length cap (ys.map enc) := by
  have e0 : grow (putRow enc (Sort.ahead w n) g 0 (ys ++ rest).toArray) #[] = putRow enc (Sort.ahead w n) g 0 (ys ++ rest).toArray := grow_empty _
  have hh := heap_put (enc := enc) (os := #[]) (n := n) (ys ++ rest).toArray hb
  rw [e0] at hh
  refine ⟨rfl, rfl, rfl, by simp [putRow, mapBlock, Sort.ahead], fun k hne hk => ?_, by simp, .inr ⟨g, cap, _, rfl, Nat.zero_le _, hh, h1, h2, by simp [putCells, h3], by rw [Nat.mul_one]; exact take_putP cur ys rest hl⟩⟩
  simp [putRow, mapBlock, Sort.ahead, Array.getElem?_modify, Ne.symm hne]
end
theorem flat_get' {α β : Type} {enc : α → List β} {k : Nat} (hk : ∀ x, (enc x).length = k) : ∀ {ys : List α} {q m : Nat} (hq : q < ys.length), m < k → (ys.flatMap enc)[q * k + m]? = (enc ys[q])[m]?
  | [], _, _, hq, _ => by simp at hq
  | y :: ys, 0, m, _, hm => by
    rw [List.flatMap_cons, Nat.zero_mul, Nat.zero_add, List.getElem?_append_left (by rw [hk]; exact hm)]
    rfl
  | y :: ys, q + 1, m, hq, hm => by
    rw [List.flatMap_cons, List.getElem?_append_right (by rw [hk, Nat.succ_mul]; omega), hk]
    have : (q + 1) * k + m - k = q * k + m := by rw [Nat.succ_mul]; omega
    rw [this, flat_get' hk (by simpa using hq) hm]
    rfl
end AM
theorem sortI : AM.RowFn Try.prog 73 [] 3 1 (fun z : Int => [Value.int .i64 z]) false (fun zs ys => ys = AM.sorted' zs) := by
  have hfm : ∀ ys : List Int, ys.flatMap (fun z => [Value.int .i64 z]) = ys.map (Value.int .i64) := fun ys => by induction ys <;> simp_all
  refine ⟨fun blk cap zs w hsz hrow => ?_, fun w => ?_⟩
  · rcases hrow.2 with ⟨h, _⟩ | ⟨g', cap', cur, hv, _, hb, h1, h2, h3, h4⟩
    · cases h
    cases hv
    rw [hfm, Nat.mul_one] at h4
    simp only [hfm]
    have hH := AM.holds_of_row (enc := Value.int .i64) (ss := zs) hb h4
    have hblk : blk < w.heap.size := (Array.getElem?_eq_some_iff.1 hb).1
    have hS := Any.slices_Sort_int lays189 blk 0 cap zs w hH hblk hsz
    refine Calls.mono (show Calls Try.prog 73 #[.slice (some ⟨blk, 0, none⟩) zs.length cap] _ _ from hS) fun e w' he => ?_
    obtain ⟨rfl, n, os, rfl⟩ := he
    have hl : (AM.sorted' zs).length = zs.length := by simp [AM.sorted']
    exact ⟨_, rfl, rfl, fun _ => hl, by rw [hl]; exact AM.rowTurned hl hb h1 h2 h3⟩
  · have hS := Any.slices_Sort_int_none lays189 none 0 w
    refine Calls.mono (show Calls Try.prog 73 #[.slice none 0 0] _ _ from hS) fun e w' he => ?_
    obtain ⟨rfl, rfl⟩ := he
    exact ⟨by simp [AM.sorted'], rfl, Go.RowKit.Below.refl _ _⟩
theorem compactI : AM.RowFn Try.prog 74 [] 3 1 (fun z : Int => [Value.int .i64 z]) true (fun zs ys => ys = Lib.compact zs) := by
  have hfm : ∀ ys : List Int, ys.flatMap (fun z => [Value.int .i64 z]) = ys.map (Value.int .i64) := fun ys => by induction ys <;> simp_all
  refine ⟨fun blk cap zs w hsz hrow => ?_, fun w => ?_⟩
  · rcases hrow.2 with ⟨h, _⟩ | ⟨g', cap', cur, hv, _, hb, h1, h2, h3, h4⟩
    · cases h
    cases hv
    rw [hfm, Nat.mul_one] at h4
    simp only [hfm]
    have hH := AM.holds_of_row (enc := Value.int .i64) (ss := zs) hb h4
    have hS := Any.slices_Compact_int lays20 blk 0 cap zs w hH (by omega) h1
    refine Calls.mono (show Calls Try.prog 74 #[.slice (some ⟨blk, 0, none⟩) zs.length cap] _ _ from hS) fun e w' he => ?_
    obtain ⟨rfl, q, rfl⟩ := he
    have hc : (Lib.compact zs).length ≤ zs.length := by
      unfold Lib.compact Lib.compactUpTo
      rw [List.length_map]
      have := List.length_filter_le (Lib.keeps zs.toArray) (List.range zs.length)
      simpa using this
    exact ⟨_, rfl, rfl, (fun h => by cases h), AM.rowTurnedP (by simp; omega) hb (by omega) h2 h3⟩
  · have hS := Any.slices_Compact_int_empty lays20 none 0 w
    refine Calls.mono (show Calls Try.prog 74 #[.slice none 0 0] _ _ from hS) fun e w' he => ?_
    obtain ⟨rfl, rfl⟩ := he
    exact ⟨by simp [Lib.compact, Lib.compactUpTo], rfl, Go.RowKit.Below.refl _ _⟩
end Go.Proofs.Ytbcfoakceloenaa
namespace Go.Proofs.Ytbcfoakceloenaa
set_option linter.all false
open Go.RowKit AM Can
theorem flat_take_succ {α β : Type} {f : α → List β} {xs : List α} {k : Nat} (h : k < xs.length) : (xs.take (k + 1)).flatMap f = (xs.take k).flatMap f ++ f xs[k] := by
  rw [List.take_succ_eq_append_getElem h, List.flatMap_append]
  simp
theorem ends_len2 {α : Type} {f g : α → Int} : ∀ xs : List α, (xs.flatMap fun r => [f r, g r]).length = 2 * xs.length
  | [] => rfl
  | x :: xs => by
    rw [List.flatMap_cons, List.length_append, ends_len2 xs]
    simp
    omega
theorem scs_int (zs : List Int) : scs (fun z : Int => [Value.int .i64 z]) zs = ints zs := by
  unfold scs ints
  induction zs with
  | nil => rfl
  | cons z zs ih =>
    rw [List.flatMap_cons, ih]
    rfl
end Go.Proofs.Ytbcfoakceloenaa
