/- slices.Sort and slices.Compact at []int, slices.SortFunc at runs: the shelf's contracts at this program, as what becomes of a row. -/
import Derived.Shelf.Sort.Plain
import Derived.Shelf.Slices.In.SortNone
import Derived.Shelf.Slices.CompactI
import Derived.Shelf.SlSortCmp.NoneTotal
import Derived.Test.YtoooldijnilpaaaVr
import Derived.Test.YtoooldijnilpaaaBa
namespace Go.Proofs.Ytoooldijnilpaaa
set_option linter.all false
open Go.Shelf Go.RowKit Go.Lib Go.Sort
def lays189_ren : Go.Shelf.Ren := ⟨fun | 189 => 127 | 125 => 91 | 257 => 141 | 128 => 115 | 129 => 116 | 294 => 144 | 295 => 145 | 296 => 146 | 297 => 147 | 298 => 148 | 299 => 149 | 216 => 150 | 300 => 151 | 301 => 152 | 328 => 161 | 329 => 162 | 330 => 163 | 331 => 164 | 332 => 165 | 215 => 166 | 343 => 170 | n => n, fun | 28 => 101 | 3 => 3 | 46 => 105 | 0 => 0 | 51 => 134 | 53 => 67 | 4 => 4 | 183 => 168 | 182 => 167 | 131 => 142 | 5 => 5 | 9 => 9 | 218 => 178 | 222 => 159 | 228 => 183 | 229 => 144 | n => n, fun | n => n⟩
theorem lays189 : Go.Proofs.Lays.n189 Try.prog lays189_ren := {
  mixed := by kernel_rfl
  f125 := Try.func91.trans (congrArg some (by kernel_rfl))
  f128 := Try.func115.trans (congrArg some (by kernel_rfl))
  f129 := Try.func116.trans (congrArg some (by kernel_rfl))
  f189 := Try.func127.trans (congrArg some (by kernel_rfl))
  f215 := Try.func166.trans (congrArg some (by kernel_rfl))
  f216 := Try.func150.trans (congrArg some (by kernel_rfl))
  f257 := Try.func141.trans (congrArg some (by kernel_rfl))
  f294 := Try.func144.trans (congrArg some (by kernel_rfl))
  f295 := Try.func145.trans (congrArg some (by kernel_rfl))
  f296 := Try.func146.trans (congrArg some (by kernel_rfl))
  f297 := Try.func147.trans (congrArg some (by kernel_rfl))
  f298 := Try.func148.trans (congrArg some (by kernel_rfl))
  f299 := Try.func149.trans (congrArg some (by kernel_rfl))
  f300 := Try.func151.trans (congrArg some (by kernel_rfl))
  f301 := Try.func152.trans (congrArg some (by kernel_rfl))
  f328 := Try.func161.trans (congrArg some (by kernel_rfl))
  f329 := Try.func162.trans (congrArg some (by kernel_rfl))
  f330 := Try.func163.trans (congrArg some (by kernel_rfl))
  f331 := Try.func164.trans (congrArg some (by kernel_rfl))
  f332 := Try.func165.trans (congrArg some (by kernel_rfl))
  f343 := Try.func170.trans (congrArg some (by kernel_rfl))
  t0 := Try.underlying0
  a0 := Try.isAgg0
  z0 := Try.sizeOf0
  v0 := Try.zeroValue0
  t3 := Try.underlying3
  a3 := Try.isAgg3
  z3 := Try.sizeOf3
  v3 := Try.zeroValue3
  t4 := Try.underlying4
  a4 := Try.isAgg4
  z4 := Try.sizeOf4
  v4 := Try.zeroValue4
  t5 := Try.underlying5
  a5 := Try.isAgg5
  z5 := Try.sizeOf5
  v5 := Try.zeroValue5
  t9 := Try.underlying9
  a9 := Try.isAgg9
  z9 := Try.sizeOf9
  v9 := Try.zeroValue9
  t28 := Try.underlying101
  a28 := Try.isAgg101
  z28 := Try.sizeOf101
  v28 := Try.zeroValue101
  t46 := Try.underlying105
  a46 := Try.isAgg105
  z46 := Try.sizeOf105
  v46 := Try.zeroValue105
  t51 := Try.underlying134
  a51 := Try.isAgg134
  z51 := Try.sizeOf134
  v51 := Try.zeroValue134
  t53 := Try.underlying67
  a53 := Try.isAgg67
  z53 := Try.sizeOf67
  v53 := Try.zeroValue67
  t131 := Try.underlying142
  a131 := Try.isAgg142
  z131 := Try.sizeOf142
  v131 := Try.zeroValue142
  t182 := Try.underlying167
  a182 := Try.isAgg167
  z182 := Try.sizeOf167
  v182 := Try.zeroValue167
  t183 := Try.underlying168
  a183 := Try.isAgg168
  z183 := Try.sizeOf168
  v183 := Try.zeroValue168
  t218 := Try.underlying178
  a218 := Try.isAgg178
  z218 := Try.sizeOf178
  v218 := Try.zeroValue178
  t222 := Try.underlying159
  a222 := Try.isAgg159
  z222 := Try.sizeOf159
  v222 := Try.zeroValue159
  t228 := Try.underlying183
  a228 := Try.isAgg183
  z228 := Try.sizeOf183
  v228 := Try.zeroValue183
  t229 := Try.underlying144
  a229 := Try.isAgg144
  z229 := Try.sizeOf144
  v229 := Try.zeroValue144 }

def lays20_ren : Go.Shelf.Ren := ⟨fun | 20 => 128 | n => n, fun | 22 => 101 | 3 => 3 | 4 => 4 | 0 => 0 | n => n, fun | n => n⟩
theorem lays20 : Go.Proofs.Lays2.n20 Try.prog lays20_ren := {
  mixed := by kernel_rfl
  f20 := Try.func128.trans (congrArg some (by kernel_rfl))
  t0 := Try.underlying0
  a0 := Try.isAgg0
  z0 := Try.sizeOf0
  v0 := Try.zeroValue0
  t3 := Try.underlying3
  a3 := Try.isAgg3
  z3 := Try.sizeOf3
  v3 := Try.zeroValue3
  t4 := Try.underlying4
  a4 := Try.isAgg4
  z4 := Try.sizeOf4
  v4 := Try.zeroValue4
  t22 := Try.underlying101
  a22 := Try.isAgg101
  z22 := Try.sizeOf101
  v22 := Try.zeroValue101
  i3 := by kernel_rfl }

def layRun_ren : Go.Shelf.Ren := ⟨fun | 6 => 132 | 15 => 91 | 14 => 142 | 28 => 115 | 29 => 116 | 20 => 153 | 21 => 154 | 22 => 155 | 23 => 156 | 24 => 157 | 25 => 158 | 26 => 159 | 27 => 160 | 46 => 167 | 47 => 162 | 48 => 163 | 49 => 168 | 50 => 169 | 57 => 171 | n => n, fun | 22 => 118 | 24 => 124 | 25 => 154 | 3 => 3 | 39 => 105 | 0 => 0 | 53 => 134 | 55 => 67 | 4 => 4 | 46 => 168 | 45 => 167 | 50 => 142 | 5 => 5 | 9 => 9 | 66 => 178 | 70 => 159 | 76 => 183 | 77 => 144 | n => n, fun | n => n⟩
theorem layRun : Go.Proofs.SlLaysF0.n6 Try.prog layRun_ren := {
  mixed := by kernel_rfl
  f6 := ⟨Try.f132.name, by decide, Try.func132.trans (congrArg some (by kernel_rfl))⟩
  f14 := ⟨Try.f142.name, by decide, Try.func142.trans (congrArg some (by kernel_rfl))⟩
  f15 := Try.func91.trans (congrArg some (by kernel_rfl))
  f20 := ⟨Try.f153.name, by decide, Try.func153.trans (congrArg some (by kernel_rfl))⟩
  f21 := ⟨Try.f154.name, by decide, Try.func154.trans (congrArg some (by kernel_rfl))⟩
  f22 := ⟨Try.f155.name, by decide, Try.func155.trans (congrArg some (by kernel_rfl))⟩
  f23 := ⟨Try.f156.name, by decide, Try.func156.trans (congrArg some (by kernel_rfl))⟩
  f24 := ⟨Try.f157.name, by decide, Try.func157.trans (congrArg some (by kernel_rfl))⟩
  f25 := ⟨Try.f158.name, by decide, Try.func158.trans (congrArg some (by kernel_rfl))⟩
  f26 := ⟨Try.f159.name, by decide, Try.func159.trans (congrArg some (by kernel_rfl))⟩
  f27 := ⟨Try.f160.name, by decide, Try.func160.trans (congrArg some (by kernel_rfl))⟩
  f28 := Try.func115.trans (congrArg some (by kernel_rfl))
  f29 := Try.func116.trans (congrArg some (by kernel_rfl))
  f46 := ⟨Try.f167.name, by decide, Try.func167.trans (congrArg some (by kernel_rfl))⟩
  f47 := Try.func162.trans (congrArg some (by kernel_rfl))
  f48 := Try.func163.trans (congrArg some (by kernel_rfl))
  f49 := ⟨Try.f168.name, by decide, Try.func168.trans (congrArg some (by kernel_rfl))⟩
  f50 := ⟨Try.f169.name, by decide, Try.func169.trans (congrArg some (by kernel_rfl))⟩
  f57 := ⟨Try.f171.name, by decide, Try.func171.trans (congrArg some (by kernel_rfl))⟩
  t0 := Try.underlying0
  a0 := Try.isAgg0
  z0 := Try.sizeOf0
  v0 := Try.zeroValue0
  t3 := Try.underlying3
  a3 := Try.isAgg3
  z3 := Try.sizeOf3
  v3 := Try.zeroValue3
  t4 := Try.underlying4
  a4 := Try.isAgg4
  z4 := Try.sizeOf4
  v4 := Try.zeroValue4
  t5 := Try.underlying5
  a5 := Try.isAgg5
  z5 := Try.sizeOf5
  v5 := Try.zeroValue5
  t9 := Try.underlying9
  a9 := Try.isAgg9
  z9 := Try.sizeOf9
  v9 := Try.zeroValue9
  t22 := Try.underlying118
  a22 := Try.isAgg118
  z22 := Try.sizeOf118
  v22 := Try.zeroValue118
  t25 := Try.underlying154
  a25 := Try.isAgg154
  z25 := Try.sizeOf154
  v25 := Try.zeroValue154
  t39 := Try.underlying105
  a39 := Try.isAgg105
  z39 := Try.sizeOf105
  v39 := Try.zeroValue105
  t45 := Try.underlying167
  a45 := Try.isAgg167
  z45 := Try.sizeOf167
  v45 := Try.zeroValue167
  t46 := Try.underlying168
  a46 := Try.isAgg168
  z46 := Try.sizeOf168
  v46 := Try.zeroValue168
  t50 := Try.underlying142
  a50 := Try.isAgg142
  z50 := Try.sizeOf142
  v50 := Try.zeroValue142
  t53 := Try.underlying134
  a53 := Try.isAgg134
  z53 := Try.sizeOf134
  v53 := Try.zeroValue134
  t55 := Try.underlying67
  a55 := Try.isAgg67
  z55 := Try.sizeOf67
  v55 := Try.zeroValue67
  t66 := Try.underlying178
  a66 := Try.isAgg178
  z66 := Try.sizeOf178
  v66 := Try.zeroValue178
  t70 := Try.underlying159
  a70 := Try.isAgg159
  z70 := Try.sizeOf159
  v70 := Try.zeroValue159
  t76 := Try.underlying183
  a76 := Try.isAgg183
  z76 := Try.sizeOf183
  v76 := Try.zeroValue183
  t77 := Try.underlying144
  a77 := Try.isAgg144
  z77 := Try.sizeOf144
  v77 := Try.zeroValue144 }

namespace AM
section
variable {α : Type} [Inhabited α] {enc : α → Value}
theorem take_putP (cur : Array Value) (ts rest : List α) (h : (ts ++ rest).length ≤ cur.size) : (putCells enc 0 (ts ++ rest).toArray cur).toList.take ts.length = ts.map enc := by
  rw [List.length_append] at h
  apply List.ext_getElem?
  intro j
  by_cases hj : j < ts.length
  · rw [List.getElem?_take_of_lt hj, Array.getElem?_toList]
    have h1 : j < ts.length + rest.length := by omega
    simp [putCells, hj, h1, show j < cur.size by omega, List.getElem_append_left hj]
  · rw [List.getElem?_take_eq_none (by omega), List.getElem?_eq_none (by simp; omega)]
/-- A row of which the head is kept. -/
theorem rowTurnedP {w : World} {g cap n : Nat} {e : TypeId} {cur : Array Value} {ys rest : List α} (hl : (ys ++ rest).length ≤ cur.size) (hb : w.heap[g]? = some (.cells cur e (0, 0)))
    (h1 : ys.length ≤ cap) (h2 : cap ≤ maxLen) (h3 : cur.size = cap * 1) : RowTurned w (putRow enc (Sort.ahead w n) g 0 (ys ++ rest).toArray) g e 1 ys.length cap (ys.map enc) := by
  have e0 : grow (putRow enc (Sort.ahead w n) g 0 (ys ++ rest).toArray) #[] = putRow enc (Sort.ahead w n) g 0 (ys ++ rest).toArray := grow_empty _
  have hh := heap_put (enc := enc) (os := #[]) (n := n) (ys ++ rest).toArray hb
  rw [e0] at hh
  refine ⟨rfl, rfl, rfl, by simp [putRow, mapBlock, Sort.ahead], fun k hne hk => ?_, by simp, .inr ⟨g, cap, _, rfl, Nat.zero_le _, hh, h1, h2, by simp [putCells, h3], by rw [Nat.mul_one]; exact take_putP cur ys rest hl⟩⟩
  simp [putRow, mapBlock, Sort.ahead, Array.getElem?_modify, Ne.symm hne]
end
theorem flat_get' {α β : Type} {enc : α → List β} {k : Nat} (hk : ∀ x, (enc x).length = k) : ∀ {ys : List α} {q m : Nat} (hq : q < ys.length), m < k → (ys.flatMap enc)[q * k + m]? = (enc ys[q])[m]?
  | [], _, _, hq, _ => by simp at hq
  | y :: ys, 0, m, _, hm => by
    rw [List.flatMap_cons, Nat.zero_mul, Nat.zero_add, List.getElem?_append_left (by rw [hk]; exact hm)]
    rfl
  | y :: ys, q + 1, m, hq, hm => by
    rw [List.flatMap_cons, List.getElem?_append_right (by rw [hk, Nat.succ_mul]; omega), hk]
    have : (q + 1) * k + m - k = q * k + m := by rw [Nat.succ_mul]; omega
    rw [this, flat_get' hk (by simpa using hq) hm]
    rfl
/-- Elements of some cells. -/
theorem flatK_list {α : Type} [Inhabited α] {enc : α → List Value} {k : Nat} (hk : ∀ x, (enc x).length = k) (hk0 : 0 < k) (ys : List α) : (flatK enc k ys.toArray).toList = ys.flatMap enc := by
  have hl : (ys.flatMap enc).length = ys.length * k := by
    induction ys with
    | nil => simp
    | cons y ys ih => rw [List.flatMap_cons, List.length_append, hk, ih, List.length_cons, Nat.succ_mul, Nat.add_comm]
  apply List.ext_getElem?
  intro j
  by_cases hj : j < ys.length * k
  · have h1 : (flatK enc k ys.toArray).toList[j]? = some (enc ys.toArray[j / k]!)[j % k]! := by
      have := get_flatK enc k ys.toArray j (by simpa using hj)
      rw [Array.getElem?_toList, ← this]
      rw [Array.getElem?_eq_getElem (by simpa using hj), getElem!_pos _ j (by simpa using hj)]
    rw [h1]
    have hq : j / k < ys.length := Nat.div_lt_of_lt_mul (by rw [Nat.mul_comm]; exact hj)
    have hm : j % k < k := Nat.mod_lt _ hk0
    have h2 := AM.flat_get' hk hq hm
    rw [show j / k * k + j % k = j by rw [Nat.mul_comm]; exact Nat.div_add_mod j k] at h2
    rw [h2]
    have e1 : ys.toArray[j / k]! = ys[j / k] := by rw [getElem!_pos ys.toArray (j / k) (by simpa using hq)]; simp
    rw [e1, getElem!_pos _ (j % k) (by rw [hk]; exact hm), List.getElem?_eq_getElem (by rw [hk]; exact hm)]
  · rw [List.getElem?_eq_none (by simp; omega), List.getElem?_eq_none (by rw [hl]; omega)]
end AM
theorem sortI : AM.RowFn Try.prog 127 [] 3 1 (fun z : Int => [Value.int .i64 z]) false (fun zs ys => ys = AM.sorted' zs) := by
  have hfm : ∀ ys : List Int, ys.flatMap (fun z => [Value.int .i64 z]) = ys.map (Value.int .i64) := fun ys => by induction ys <;> simp_all
  refine ⟨fun blk cap zs w hsz hrow => ?_, fun w => ?_⟩
  · rcases hrow.2 with ⟨h, _⟩ | ⟨g', cap', cur, hv, _, hb, h1, h2, h3, h4⟩
    · cases h
    cases hv
    rw [hfm, Nat.mul_one] at h4
    simp only [hfm]
    have hH := AM.holds_of_row (enc := Value.int .i64) (ss := zs) hb h4
    have hblk : blk < w.heap.size := (Array.getElem?_eq_some_iff.1 hb).1
    have hS := Any.slices_Sort_int lays189 blk 0 cap zs w hH hblk hsz
    refine Calls.mono (show Calls Try.prog 127 #[.slice (some ⟨blk, 0, none⟩) zs.length cap] _ _ from hS) fun e w' he => ?_
    obtain ⟨rfl, n, os, rfl⟩ := he
    have hl : (AM.sorted' zs).length = zs.length := by simp [AM.sorted']
    exact ⟨_, rfl, rfl, fun _ => hl, by rw [hl]; exact AM.rowTurned hl hb h1 h2 h3⟩
  · have hS := Any.slices_Sort_int_none lays189 none 0 w
    refine Calls.mono (show Calls Try.prog 127 #[.slice none 0 0] _ _ from hS) fun e w' he => ?_
    obtain ⟨rfl, rfl⟩ := he
    exact ⟨by simp [AM.sorted'], rfl, Go.RowKit.Below.refl _ _⟩
theorem compactI : AM.RowFn Try.prog 128 [] 3 1 (fun z : Int => [Value.int .i64 z]) true (fun zs ys => ys = Lib.compact zs) := by
  have hfm : ∀ ys : List Int, ys.flatMap (fun z => [Value.int .i64 z]) = ys.map (Value.int .i64) := fun ys => by induction ys <;> simp_all
  refine ⟨fun blk cap zs w hsz hrow => ?_, fun w => ?_⟩
  · rcases hrow.2 with ⟨h, _⟩ | ⟨g', cap', cur, hv, _, hb, h1, h2, h3, h4⟩
    · cases h
    cases hv
    rw [hfm, Nat.mul_one] at h4
    simp only [hfm]
    have hH := AM.holds_of_row (enc := Value.int .i64) (ss := zs) hb h4
    have hS := Any.slices_Compact_int lays20 blk 0 cap zs w hH (by omega) h1
    refine Calls.mono (show Calls Try.prog 128 #[.slice (some ⟨blk, 0, none⟩) zs.length cap] _ _ from hS) fun e w' he => ?_
    obtain ⟨rfl, q, rfl⟩ := he
    have hc : (Lib.compact zs).length ≤ zs.length := by
      unfold Lib.compact Lib.compactUpTo
      rw [List.length_map]
      have := List.length_filter_le (Lib.keeps zs.toArray) (List.range zs.length)
      simpa using this
    exact ⟨_, rfl, rfl, (fun h => by cases h), AM.rowTurnedP (by simp; omega) hb (by omega) h2 h3⟩
  · have hS := Any.slices_Compact_int_empty lays20 none 0 w
    refine Calls.mono (show Calls Try.prog 128 #[.slice none 0 0] _ _ from hS) fun e w' he => ?_
    obtain ⟨rfl, rfl⟩ := he
    exact ⟨by simp [Lib.compact, Lib.compactUpTo], rfl, Go.RowKit.Below.refl _ _⟩
/-- A run that begins within the grid. -/
abbrev RnS : Type := { p : Int × Int // 0 ≤ p.1 ∧ p.1 ≤ 65535 }
instance : Inhabited RnS := ⟨⟨(0, 0), by decide⟩⟩
def encRn (x : RnS) : List Value := [.int .i64 x.1.1, .int .i64 x.1.2]
def cfRn (x y : RnS) : Int := x.1.1 - y.1.1
theorem ltRn (x y : RnS) : ltOf cfRn x y = decide (x.1.1 < y.1.1) := by
  unfold ltOf cfRn
  rw [decide_eq_decide]
  omega
theorem swoRn : SWO (ltOf cfRn) where
  irrefl x := by rw [ltRn]; simp
  trans x y z h1 h2 := by rw [ltRn] at *; simp at *; omega
  ntrans x y z h1 h2 := by rw [ltRn] at *; simp at *; omega
theorem sortRn : AM.RowFn Try.prog 132 [.func (.func 133) #[] #[]] 124 2 encRn false (fun zs ys => ys.Perm zs ∧ ys.Pairwise fun p q => p.1.1 ≤ q.1.1) := by
  refine ⟨fun blk cap zs w hsz hrow => ?_, fun w => ?_⟩
  · rcases hrow.2 with ⟨h, _⟩ | ⟨g', cap', cur, hv, _, hb, h1, h2, h3, h4⟩
    · cases h
    cases hv
    have hk : ∀ x : RnS, (encRn x).length = 2 := fun _ => rfl
    have hfl : ∀ ys : List RnS, (flatK encRn 2 ys.toArray).toList = ys.flatMap encRn := fun ys => AM.flatK_list hk (by decide) ys
    have hfs : ∀ ys : List RnS, (flatK encRn 2 ys.toArray) = (ys.flatMap encRn).toArray := fun ys => by rw [← hfl]
    have hfn : ∀ ys : List RnS, (ys.flatMap encRn).length = ys.length * 2 := fun ys => by rw [← hfl]; simp
    have hH : HoldsK encRn 2 w blk 0 zs.toArray := by
      unfold HoldsK
      rw [hfs]
      exact AM.holds_of_row (enc := id) (ss := zs.flatMap encRn) hb (by rw [hfn, h4]; simp)
    have hblk : blk < w.heap.size := (Array.getElem?_eq_some_iff.1 hb).1
    have hcmp : CmpLays Try.prog 133 #[] encRn 2 cfRn blk 0 zs.toArray.size w := fun m os dk _ x y => by
      have h := cmpRuns x.1.1 x.1.2 y.1.1 y.1.2 (by
        have := x.2
        have := y.2
        rw [AM.wrap_i64] <;> omega) (sortWorldK encRn 2 w blk 0 m dk os)
      exact h
    have hS := AnyQ.slices_SortFunc layRun 2 Try.isAgg124 Try.sizeOf124 encRn hk (fun x v hv => by simp [encRn] at hv; rcases hv with rfl | rfl <;> rfl) cfRn swoRn 133 #[] blk 0 cap zs.toArray w
      (enters_of Try.func133 (by kernel_rfl) rfl) hcmp hH hblk (by simpa using hsz)
    refine Calls.mono (show Calls Try.prog 132 #[.slice (some ⟨blk, 0, none⟩) zs.length cap, .func (.func 133) #[] #[]] _ _ from hS) fun e w' he => ?_
    obtain ⟨rfl, d', n, os, hp, hso, rfl⟩ := he
    obtain ⟨hp1, _, hp3⟩ := hp
    have e1 : d'.extract 0 zs.toArray.size = d' := by rw [← hp1]; simp
    have e2 : zs.toArray.extract 0 zs.toArray.size = zs.toArray := by simp
    rw [e1, e2] at hp3
    have hperm : d'.toList.Perm zs := hp3
    have hl : d'.toList.length = zs.length := hperm.length_eq
    refine ⟨d'.toList, ⟨hperm, ?_⟩, rfl, fun _ => hl, ?_⟩
    · rw [List.pairwise_iff_getElem]
      intro i j hi hj hij
      have hj' : j < d'.size := by simpa using hj
      have hi' : i < d'.size := by omega
      have hjz : j < zs.toArray.size := by rw [← hp1]; exact hj'
      have := hso i j (Nat.zero_le _) hij hjz
      rw [getElem!_pos d' i hi', getElem!_pos d' j hj', ltRn] at this
      simp only [decide_eq_false_iff_not, Int.not_lt] at this
      simpa using this
    · unfold sortWorldK putRowK
      have e3 : flatK encRn 2 d' = (d'.toList.flatMap encRn).toArray := hfs d'.toList
      rw [e3]
      have hh := AM.heap_put (enc := id) (n := n) (os := os) (d'.toList.flatMap encRn).toArray hb
      have ht := AM.take_put (enc := id) cur (d'.toList.flatMap encRn) (by rw [hfn, hl, h3]; exact Nat.mul_le_mul_right 2 h1)
      rw [hfn] at ht
      refine ⟨rfl, rfl, rfl, by simp, fun k hne hk => ?_, by rw [hfn], .inr ⟨blk, cap, _, rfl, Nat.zero_le _, hh, by rw [hl]; exact h1, h2, by simp [putCells, h3], by rw [ht]; simp⟩⟩
      rw [heap_grow_old _ _ (by simpa using hk)]
      simp [putRow, mapBlock, Sort.ahead, Array.getElem?_modify, Ne.symm hne]
  · have hS := AnyF.slices_SortFunc_none { layRun with } none 0 (.func (.func 133) #[] #[]) w
    refine Calls.mono (show Calls Try.prog 132 #[.slice none 0 0, .func (.func 133) #[] #[]] _ _ from hS) fun e w' he => ?_
    obtain ⟨rfl, rfl⟩ := he
    exact ⟨⟨List.Perm.refl _, List.Pairwise.nil⟩, rfl, Go.RowKit.Below.refl _ _⟩
end Go.Proofs.Ytoooldijnilpaaa
