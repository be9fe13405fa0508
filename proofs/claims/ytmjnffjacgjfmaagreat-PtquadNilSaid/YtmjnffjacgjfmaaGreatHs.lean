/- sort.Slice at shapes by their numbers: the shelf's contract at this program, and the closure. -/
import Derived.Shelf.GgSortFunc.Tiny
import Derived.Shelf.SlSortFuncK.WholeK
import Derived.Deep.QuietTactic
import Derived.Ground.GgsProg
import Derived.Test.YtmjnffjacgjfmaaGreatAw1
import Derived.Test.YtmjnffjacgjfmaaGreatHd
namespace Go.Proofs.YtmjnffjacgjfmaaGreat
set_option linter.all false
open Go.Shelf Go.RowKit Go.Lib Go.Sort
set_option maxRecDepth 10000

def sl6_ren : Go.Shelf.Ren := ⟨fun | 6 => 42 | 10 => 60 | 11 => 61 | 12 => 62 | 13 => 63 | 14 => 64 | 24 => 81 | 25 => 82 | 26 => 83 | 27 => 84 | 28 => 85 | 29 => 86 | 30 => 87 | 31 => 88 | 32 => 89 | 33 => 90 | 34 => 95 | 35 => 96 | 36 => 97 | 37 => 98 | 38 => 99 | 39 => 102 | n => n, fun | 20 => 20 | 26 => 85 | 35 => 108 | 0 => 0 | 37 => 110 | 3 => 3 | 41 => 113 | 44 => 116 | 49 => 129 | 51 => 62 | 4 => 4 | 54 => 133 | 53 => 132 | 58 => 137 | 5 => 5 | 9 => 9 | 60 => 143 | 64 => 147 | 66 => 151 | 67 => 103 | 17 => 17 | 32 => 105 | 33 => 106 | 82 => 166 | 12 => 12 | 75 => 159 | 76 => 160 | 77 => 161 | 78 => 162 | 79 => 163 | 80 => 164 | n => n, fun | n => n⟩
theorem sl6 : Go.Proofs.LaysGg.n6 Tryz.prog sl6_ren := {
  mixed := by kernel_rfl
  f6 := Tryz.func42.trans (congrArg some (by kernel_rfl))
  f10 := Tryz.func60.trans (congrArg some (by kernel_rfl))
  f11 := Tryz.func61.trans (congrArg some (by kernel_rfl))
  f12 := Tryz.func62.trans (congrArg some (by kernel_rfl))
  f13 := Tryz.func63.trans (congrArg some (by kernel_rfl))
  f14 := Tryz.func64.trans (congrArg some (by kernel_rfl))
  f24 := Tryz.func81.trans (congrArg some (by kernel_rfl))
  f25 := Tryz.func82.trans (congrArg some (by kernel_rfl))
  f26 := Tryz.func83.trans (congrArg some (by kernel_rfl))
  f27 := Tryz.func84.trans (congrArg some (by kernel_rfl))
  f28 := Tryz.func85.trans (congrArg some (by kernel_rfl))
  f29 := Tryz.func86.trans (congrArg some (by kernel_rfl))
  f30 := Tryz.func87.trans (congrArg some (by kernel_rfl))
  f31 := Tryz.func88.trans (congrArg some (by kernel_rfl))
  f32 := Tryz.func89.trans (congrArg some (by kernel_rfl))
  f33 := Tryz.func90.trans (congrArg some (by kernel_rfl))
  f34 := Tryz.func95.trans (congrArg some (by kernel_rfl))
  f35 := Tryz.func96.trans (congrArg some (by kernel_rfl))
  f36 := Tryz.func97.trans (congrArg some (by kernel_rfl))
  f37 := Tryz.func98.trans (congrArg some (by kernel_rfl))
  f38 := Tryz.func99.trans (congrArg some (by kernel_rfl))
  f39 := Tryz.func102.trans (congrArg some (by kernel_rfl))
  t0 := Tryz.underlying0
  a0 := Tryz.isAgg0
  z0 := Tryz.sizeOf0
  v0 := Tryz.zeroValue0
  i0 := by kernel_rfl
  t3 := Tryz.underlying3
  a3 := Tryz.isAgg3
  z3 := Tryz.sizeOf3
  v3 := Tryz.zeroValue3
  i3 := by kernel_rfl
  t4 := Tryz.underlying4
  a4 := Tryz.isAgg4
  z4 := Tryz.sizeOf4
  v4 := Tryz.zeroValue4
  i4 := by kernel_rfl
  t5 := Tryz.underlying5
  a5 := Tryz.isAgg5
  z5 := Tryz.sizeOf5
  v5 := Tryz.zeroValue5
  i5 := by kernel_rfl
  t9 := Tryz.underlying9
  a9 := Tryz.isAgg9
  z9 := Tryz.sizeOf9
  v9 := Tryz.zeroValue9
  i9 := by kernel_rfl
  t12 := Tryz.underlying12
  a12 := Tryz.isAgg12
  z12 := Tryz.sizeOf12
  v12 := Tryz.zeroValue12
  i12 := by kernel_rfl
  t17 := Tryz.underlying17
  a17 := Tryz.isAgg17
  z17 := Tryz.sizeOf17
  v17 := Tryz.zeroValue17
  i17 := by kernel_rfl
  t20 := Tryz.underlying20
  a20 := Tryz.isAgg20
  z20 := Tryz.sizeOf20
  v20 := Tryz.zeroValue20
  i20 := by kernel_rfl
  t26 := Tryz.underlying85
  a26 := Tryz.isAgg85
  z26 := Tryz.sizeOf85
  v26 := Tryz.zeroValue85
  i26 := by kernel_rfl
  t32 := Tryz.underlying105
  a32 := Tryz.isAgg105
  z32 := Tryz.sizeOf105
  v32 := Tryz.zeroValue105
  i32 := by kernel_rfl
  t33 := Tryz.underlying106
  a33 := Tryz.isAgg106
  z33 := Tryz.sizeOf106
  v33 := Tryz.zeroValue106
  i33 := by kernel_rfl
  t35 := Tryz.underlying108
  a35 := Tryz.isAgg108
  z35 := Tryz.sizeOf108
  v35 := Tryz.zeroValue108
  i35 := by kernel_rfl
  t37 := Tryz.underlying110
  a37 := Tryz.isAgg110
  z37 := Tryz.sizeOf110
  v37 := Tryz.zeroValue110
  i37 := by kernel_rfl
  t41 := Tryz.underlying113
  a41 := Tryz.isAgg113
  z41 := Tryz.sizeOf113
  v41 := Tryz.zeroValue113
  i41 := by kernel_rfl
  t44 := Tryz.underlying116
  a44 := Tryz.isAgg116
  z44 := Tryz.sizeOf116
  v44 := Tryz.zeroValue116
  i44 := by kernel_rfl
  t49 := Tryz.underlying129
  a49 := Tryz.isAgg129
  z49 := Tryz.sizeOf129
  v49 := Tryz.zeroValue129
  i49 := by kernel_rfl
  t51 := Tryz.underlying62
  a51 := Tryz.isAgg62
  z51 := Tryz.sizeOf62
  v51 := Tryz.zeroValue62
  i51 := by kernel_rfl
  t53 := Tryz.underlying132
  a53 := Tryz.isAgg132
  z53 := Tryz.sizeOf132
  v53 := Tryz.zeroValue132
  i53 := by kernel_rfl
  t54 := Tryz.underlying133
  a54 := Tryz.isAgg133
  z54 := Tryz.sizeOf133
  v54 := Tryz.zeroValue133
  i54 := by kernel_rfl
  t58 := Tryz.underlying137
  a58 := Tryz.isAgg137
  z58 := Tryz.sizeOf137
  v58 := Tryz.zeroValue137
  i58 := by kernel_rfl
  t60 := Tryz.underlying143
  a60 := Tryz.isAgg143
  z60 := Tryz.sizeOf143
  v60 := Tryz.zeroValue143
  i60 := by kernel_rfl
  t64 := Tryz.underlying147
  a64 := Tryz.isAgg147
  z64 := Tryz.sizeOf147
  v64 := Tryz.zeroValue147
  i64 := by kernel_rfl
  t66 := Tryz.underlying151
  a66 := Tryz.isAgg151
  z66 := Tryz.sizeOf151
  v66 := Tryz.zeroValue151
  i66 := by kernel_rfl
  t67 := Tryz.underlying103
  a67 := Tryz.isAgg103
  z67 := Tryz.sizeOf103
  v67 := Tryz.zeroValue103
  i67 := by kernel_rfl
  t75 := Tryz.underlying159
  a75 := Tryz.isAgg159
  z75 := Tryz.sizeOf159
  v75 := Tryz.zeroValue159
  i75 := by kernel_rfl
  t76 := Tryz.underlying160
  a76 := Tryz.isAgg160
  z76 := Tryz.sizeOf160
  v76 := Tryz.zeroValue160
  i76 := by kernel_rfl
  t77 := Tryz.underlying161
  a77 := Tryz.isAgg161
  z77 := Tryz.sizeOf161
  v77 := Tryz.zeroValue161
  i77 := by kernel_rfl
  t78 := Tryz.underlying162
  a78 := Tryz.isAgg162
  z78 := Tryz.sizeOf162
  v78 := Tryz.zeroValue162
  i78 := by kernel_rfl
  t79 := Tryz.underlying163
  a79 := Tryz.isAgg163
  z79 := Tryz.sizeOf163
  v79 := Tryz.zeroValue163
  i79 := by kernel_rfl
  t80 := Tryz.underlying164
  a80 := Tryz.isAgg164
  z80 := Tryz.sizeOf164
  v80 := Tryz.zeroValue164
  i80 := by kernel_rfl
  t82 := Tryz.underlying166
  a82 := Tryz.isAgg166
  z82 := Tryz.sizeOf166
  v82 := Tryz.zeroValue166
  i82 := by kernel_rfl }

namespace AM
theorem hflat_get {α β : Type} {enc : α → List β} {k : Nat} (hk : ∀ x, (enc x).length = k) : ∀ {ys : List α} {q m : Nat} (hq : q < ys.length), m < k → (ys.flatMap enc)[q * k + m]? = (enc ys[q])[m]?
  | [], _, _, hq, _ => by simp at hq
  | y :: ys, 0, m, _, hm => by
    rw [List.flatMap_cons, Nat.zero_mul, Nat.zero_add, List.getElem?_append_left (by rw [hk]; exact hm)]
    rfl
  | y :: ys, q + 1, m, hq, hm => by
    rw [List.flatMap_cons, List.getElem?_append_right (by rw [hk, Nat.succ_mul]; omega), hk]
    have : (q + 1) * k + m - k = q * k + m := by rw [Nat.succ_mul]; omega
    rw [this, hflat_get hk (by simpa using hq) hm]
    rfl
theorem hflatK_list {α : Type} [Inhabited α] {enc : α → List Value} {k : Nat} (hk : ∀ x, (enc x).length = k) (hk0 : 0 < k) (ys : List α) : (flatK enc k ys.toArray).toList = ys.flatMap enc := by
  have hl : (ys.flatMap enc).length = ys.length * k := by
    induction ys with
    | nil => simp
    | cons y ys ih => rw [List.flatMap_cons, List.length_append, hk, ih, List.length_cons, Nat.succ_mul, Nat.add_comm]
  apply List.ext_getElem?
  intro j
  by_cases hj : j < ys.length * k
  · have h1 : (flatK enc k ys.toArray).toList[j]? = some (enc ys.toArray[j / k]!)[j % k]! := by
      have := get_flatK enc k ys.toArray j (by simpa using hj)
      rw [Array.getElem?_toList, ← this]
      rw [Array.getElem?_eq_getElem (by simpa using hj), getElem!_pos _ j (by simpa using hj)]
    rw [h1]
    have hq : j / k < ys.length := Nat.div_lt_of_lt_mul (by rw [Nat.mul_comm]; exact hj)
    have hm : j % k < k := Nat.mod_lt _ hk0
    have h2 := AM.hflat_get hk hq hm
    rw [show j / k * k + j % k = j by rw [Nat.mul_comm]; exact Nat.div_add_mod j k] at h2
    rw [h2]
    have e1 : ys.toArray[j / k]! = ys[j / k] := by rw [getElem!_pos ys.toArray (j / k) (by simpa using hq)]; simp
    rw [e1, getElem!_pos _ (j % k) (by rw [hk]; exact hm), List.getElem?_eq_getElem (by rw [hk]; exact hm)]
  · rw [List.getElem?_eq_none (by simp; omega), List.getElem?_eq_none (by rw [hl]; omega)]
end AM
def encS (s : Sh) : List Value := [.int .i64 s.id, .int .i64 s.box.x0, .int .i64 s.box.y0, .int .i64 s.box.x1, .int .i64 s.box.y1, .int .i64 s.lab]
def ltS (a b : Sh) : Bool := decide (a.id < b.id)
theorem swoS : SWO ltS where
  irrefl x := by simp [ltS]
  trans x y z h1 h2 := by simp [ltS] at *; omega
  ntrans x y z h1 h2 := by simp [ltS] at *; omega
def SortedBy (zs ys : List Sh) : Prop := ys.Perm zs ∧ ys.Pairwise fun p q => p.id ≤ q.id
theorem shortS : ∀ {zs : List Sh}, zs.length ≤ 1 → zs.Pairwise fun p q => p.id ≤ q.id
  | [], _ => List.Pairwise.nil
  | [a], _ => List.pairwise_singleton _ _
  | _ :: _ :: _, h => by simp at h
end Go.Proofs.YtmjnffjacgjfmaaGreat
