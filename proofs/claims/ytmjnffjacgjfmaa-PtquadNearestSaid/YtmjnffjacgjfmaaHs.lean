/- sort.Slice at shapes by their numbers: the shelf's contract at this program, and the closure. -/
import Derived.Shelf.GgSortFunc.Tiny
import Derived.Shelf.SlSortFuncK.WholeK
import Derived.Deep.QuietTactic
import Derived.Ground.GgsProg
import Derived.Test.YtmjnffjacgjfmaaAw1
import Derived.Test.YtmjnffjacgjfmaaHd
namespace Go.Proofs.Ytmjnffjacgjfmaa
set_option linter.all false
open Go.Shelf Go.RowKit Go.Lib Go.Sort
set_option maxRecDepth 10000

def sl6_ren : Go.Shelf.Ren := ⟨fun | 6 => 73 | 10 => 93 | 11 => 94 | 12 => 95 | 13 => 96 | 14 => 97 | 24 => 114 | 25 => 115 | 26 => 116 | 27 => 117 | 28 => 118 | 29 => 119 | 30 => 120 | 31 => 121 | 32 => 122 | 33 => 123 | 34 => 127 | 35 => 128 | 36 => 129 | 37 => 130 | 38 => 131 | 39 => 132 | n => n, fun | 20 => 20 | 26 => 123 | 35 => 139 | 0 => 0 | 37 => 128 | 3 => 3 | 41 => 143 | 44 => 146 | 49 => 156 | 51 => 79 | 4 => 4 | 54 => 160 | 53 => 159 | 58 => 164 | 5 => 5 | 9 => 9 | 60 => 168 | 64 => 172 | 66 => 174 | 67 => 66 | 17 => 17 | 32 => 136 | 33 => 137 | 82 => 189 | 12 => 12 | 75 => 182 | 76 => 183 | 77 => 184 | 78 => 185 | 79 => 186 | 80 => 187 | n => n, fun | n => n⟩
theorem sl6 : Go.Proofs.LaysGg.n6 Try.prog sl6_ren := {
  mixed := by kernel_rfl
  f6 := Try.func73.trans (congrArg some (by kernel_rfl))
  f10 := Try.func93.trans (congrArg some (by kernel_rfl))
  f11 := Try.func94.trans (congrArg some (by kernel_rfl))
  f12 := Try.func95.trans (congrArg some (by kernel_rfl))
  f13 := Try.func96.trans (congrArg some (by kernel_rfl))
  f14 := Try.func97.trans (congrArg some (by kernel_rfl))
  f24 := Try.func114.trans (congrArg some (by kernel_rfl))
  f25 := Try.func115.trans (congrArg some (by kernel_rfl))
  f26 := Try.func116.trans (congrArg some (by kernel_rfl))
  f27 := Try.func117.trans (congrArg some (by kernel_rfl))
  f28 := Try.func118.trans (congrArg some (by kernel_rfl))
  f29 := Try.func119.trans (congrArg some (by kernel_rfl))
  f30 := Try.func120.trans (congrArg some (by kernel_rfl))
  f31 := Try.func121.trans (congrArg some (by kernel_rfl))
  f32 := Try.func122.trans (congrArg some (by kernel_rfl))
  f33 := Try.func123.trans (congrArg some (by kernel_rfl))
  f34 := Try.func127.trans (congrArg some (by kernel_rfl))
  f35 := Try.func128.trans (congrArg some (by kernel_rfl))
  f36 := Try.func129.trans (congrArg some (by kernel_rfl))
  f37 := Try.func130.trans (congrArg some (by kernel_rfl))
  f38 := Try.func131.trans (congrArg some (by kernel_rfl))
  f39 := Try.func132.trans (congrArg some (by kernel_rfl))
  t0 := Try.underlying0
  a0 := Try.isAgg0
  z0 := Try.sizeOf0
  v0 := Try.zeroValue0
  i0 := by kernel_rfl
  t3 := Try.underlying3
  a3 := Try.isAgg3
  z3 := Try.sizeOf3
  v3 := Try.zeroValue3
  i3 := by kernel_rfl
  t4 := Try.underlying4
  a4 := Try.isAgg4
  z4 := Try.sizeOf4
  v4 := Try.zeroValue4
  i4 := by kernel_rfl
  t5 := Try.underlying5
  a5 := Try.isAgg5
  z5 := Try.sizeOf5
  v5 := Try.zeroValue5
  i5 := by kernel_rfl
  t9 := Try.underlying9
  a9 := Try.isAgg9
  z9 := Try.sizeOf9
  v9 := Try.zeroValue9
  i9 := by kernel_rfl
  t12 := Try.underlying12
  a12 := Try.isAgg12
  z12 := Try.sizeOf12
  v12 := Try.zeroValue12
  i12 := by kernel_rfl
  t17 := Try.underlying17
  a17 := Try.isAgg17
  z17 := Try.sizeOf17
  v17 := Try.zeroValue17
  i17 := by kernel_rfl
  t20 := Try.underlying20
  a20 := Try.isAgg20
  z20 := Try.sizeOf20
  v20 := Try.zeroValue20
  i20 := by kernel_rfl
  t26 := Try.underlying123
  a26 := Try.isAgg123
  z26 := Try.sizeOf123
  v26 := Try.zeroValue123
  i26 := by kernel_rfl
  t32 := Try.underlying136
  a32 := Try.isAgg136
  z32 := Try.sizeOf136
  v32 := Try.zeroValue136
  i32 := by kernel_rfl
  t33 := Try.underlying137
  a33 := Try.isAgg137
  z33 := Try.sizeOf137
  v33 := Try.zeroValue137
  i33 := by kernel_rfl
  t35 := Try.underlying139
  a35 := Try.isAgg139
  z35 := Try.sizeOf139
  v35 := Try.zeroValue139
  i35 := by kernel_rfl
  t37 := Try.underlying128
  a37 := Try.isAgg128
  z37 := Try.sizeOf128
  v37 := Try.zeroValue128
  i37 := by kernel_rfl
  t41 := Try.underlying143
  a41 := Try.isAgg143
  z41 := Try.sizeOf143
  v41 := Try.zeroValue143
  i41 := by kernel_rfl
  t44 := Try.underlying146
  a44 := Try.isAgg146
  z44 := Try.sizeOf146
  v44 := Try.zeroValue146
  i44 := by kernel_rfl
  t49 := Try.underlying156
  a49 := Try.isAgg156
  z49 := Try.sizeOf156
  v49 := Try.zeroValue156
  i49 := by kernel_rfl
  t51 := Try.underlying79
  a51 := Try.isAgg79
  z51 := Try.sizeOf79
  v51 := Try.zeroValue79
  i51 := by kernel_rfl
  t53 := Try.underlying159
  a53 := Try.isAgg159
  z53 := Try.sizeOf159
  v53 := Try.zeroValue159
  i53 := by kernel_rfl
  t54 := Try.underlying160
  a54 := Try.isAgg160
  z54 := Try.sizeOf160
  v54 := Try.zeroValue160
  i54 := by kernel_rfl
  t58 := Try.underlying164
  a58 := Try.isAgg164
  z58 := Try.sizeOf164
  v58 := Try.zeroValue164
  i58 := by kernel_rfl
  t60 := Try.underlying168
  a60 := Try.isAgg168
  z60 := Try.sizeOf168
  v60 := Try.zeroValue168
  i60 := by kernel_rfl
  t64 := Try.underlying172
  a64 := Try.isAgg172
  z64 := Try.sizeOf172
  v64 := Try.zeroValue172
  i64 := by kernel_rfl
  t66 := Try.underlying174
  a66 := Try.isAgg174
  z66 := Try.sizeOf174
  v66 := Try.zeroValue174
  i66 := by kernel_rfl
  t67 := Try.underlying66
  a67 := Try.isAgg66
  z67 := Try.sizeOf66
  v67 := Try.zeroValue66
  i67 := by kernel_rfl
  t75 := Try.underlying182
  a75 := Try.isAgg182
  z75 := Try.sizeOf182
  v75 := Try.zeroValue182
  i75 := by kernel_rfl
  t76 := Try.underlying183
  a76 := Try.isAgg183
  z76 := Try.sizeOf183
  v76 := Try.zeroValue183
  i76 := by kernel_rfl
  t77 := Try.underlying184
  a77 := Try.isAgg184
  z77 := Try.sizeOf184
  v77 := Try.zeroValue184
  i77 := by kernel_rfl
  t78 := Try.underlying185
  a78 := Try.isAgg185
  z78 := Try.sizeOf185
  v78 := Try.zeroValue185
  i78 := by kernel_rfl
  t79 := Try.underlying186
  a79 := Try.isAgg186
  z79 := Try.sizeOf186
  v79 := Try.zeroValue186
  i79 := by kernel_rfl
  t80 := Try.underlying187
  a80 := Try.isAgg187
  z80 := Try.sizeOf187
  v80 := Try.zeroValue187
  i80 := by kernel_rfl
  t82 := Try.underlying189
  a82 := Try.isAgg189
  z82 := Try.sizeOf189
  v82 := Try.zeroValue189
  i82 := by kernel_rfl }

namespace AM
theorem hflat_get {α β : Type} {enc : α → List β} {k : Nat} (hk : ∀ x, (enc x).length = k) : ∀ {ys : List α} {q m : Nat} (hq : q < ys.length), m < k → (ys.flatMap enc)[q * k + m]? = (enc ys[q])[m]?
  | [], _, _, hq, _ => by simp at hq
  | y :: ys, 0, m, _, hm => by
    rw [List.flatMap_cons, Nat.zero_mul, Nat.zero_add, List.getElem?_append_left (by rw [hk]; exact hm)]
    rfl
  | y :: ys, q + 1, m, hq, hm => by
    rw [List.flatMap_cons, List.getElem?_append_right (by rw [hk, Nat.succ_mul]; omega), hk]
    have : (q + 1) * k + m - k = q * k + m := by rw [Nat.succ_mul]; omega
    rw [this, hflat_get hk (by simpa using hq) hm]
    rfl
theorem hflatK_list {α : Type} [Inhabited α] {enc : α → List Value} {k : Nat} (hk : ∀ x, (enc x).length = k) (hk0 : 0 < k) (ys : List α) : (flatK enc k ys.toArray).toList = ys.flatMap enc := by
  have hl : (ys.flatMap enc).length = ys.length * k := by
    induction ys with
    | nil => simp
    | cons y ys ih => rw [List.flatMap_cons, List.length_append, hk, ih, List.length_cons, Nat.succ_mul, Nat.add_comm]
  apply List.ext_getElem?
  intro j
  by_cases hj : j < ys.length * k
  · have h1 : (flatK enc k ys.toArray).toList[j]? = some (enc ys.toArray[j / k]!)[j % k]! := by
      have := get_flatK enc k ys.toArray j (by simpa using hj)
      rw [Array.getElem?_toList, ← this]
      rw [Array.getElem?_eq_getElem (by simpa using hj), getElem!_pos _ j (by simpa using hj)]
    rw [h1]
    have hq : j / k < ys.length := Nat.div_lt_of_lt_mul (by rw [Nat.mul_comm]; exact hj)
    have hm : j % k < k := Nat.mod_lt _ hk0
    have h2 := AM.hflat_get hk hq hm
    rw [show j / k * k + j % k = j by rw [Nat.mul_comm]; exact Nat.div_add_mod j k] at h2
    rw [h2]
    have e1 : ys.toArray[j / k]! = ys[j / k] := by rw [getElem!_pos ys.toArray (j / k) (by simpa using hq)]; simp
    rw [e1, getElem!_pos _ (j % k) (by rw [hk]; exact hm), List.getElem?_eq_getElem (by rw [hk]; exact hm)]
  · rw [List.getElem?_eq_none (by simp; omega), List.getElem?_eq_none (by rw [hl]; omega)]
end AM
def encS (s : Sh) : List Value := [.int .i64 s.id, .int .i64 s.box.x0, .int .i64 s.box.y0, .int .i64 s.box.x1, .int .i64 s.box.y1, .int .i64 s.lab]
def ltS (a b : Sh) : Bool := decide (a.id < b.id)
theorem swoS : SWO ltS where
  irrefl x := by simp [ltS]
  trans x y z h1 h2 := by simp [ltS] at *; omega
  ntrans x y z h1 h2 := by simp [ltS] at *; omega
def SortedBy (zs ys : List Sh) : Prop := ys.Perm zs ∧ ys.Pairwise fun p q => p.id ≤ q.id
theorem shortS : ∀ {zs : List Sh}, zs.length ≤ 1 → zs.Pairwise fun p q => p.id ≤ q.id
  | [], _ => List.Pairwise.nil
  | [a], _ => List.pairwise_singleton _ _
  | _ :: _ :: _, h => by simp at h
end Go.Proofs.Ytmjnffjacgjfmaa
