/- sort.Slice at shapes by their numbers: the shelf's contract at this program, and the closure. -/
import Derived.Shelf.GgSortFunc.Tiny
import Derived.Shelf.SlSortFuncK.WholeK
import Derived.Deep.QuietTactic
import Derived.Ground.GgsProg
import Derived.Test.YtdeemchhbgomjaaGreatAw1
import Derived.Test.YtdeemchhbgomjaaGreatHd
namespace Go.Proofs.YtdeemchhbgomjaaGreat
set_option linter.all false
open Go.Shelf Go.RowKit Go.Lib Go.Sort
set_option maxRecDepth 10000

def sl6_ren : Go.Shelf.Ren := ⟨fun | 6 => 62 | 10 => 76 | 11 => 77 | 12 => 78 | 13 => 79 | 14 => 80 | 24 => 97 | 25 => 98 | 26 => 99 | 27 => 100 | 28 => 101 | 29 => 102 | 30 => 103 | 31 => 104 | 32 => 105 | 33 => 106 | 34 => 109 | 35 => 110 | 36 => 111 | 37 => 112 | 38 => 113 | 39 => 114 | n => n, fun | 20 => 20 | 26 => 106 | 35 => 123 | 0 => 0 | 37 => 116 | 3 => 3 | 41 => 127 | 44 => 130 | 49 => 141 | 51 => 67 | 4 => 4 | 54 => 145 | 53 => 144 | 58 => 149 | 5 => 5 | 9 => 9 | 60 => 153 | 64 => 157 | 66 => 159 | 67 => 110 | 17 => 17 | 32 => 120 | 33 => 121 | 82 => 174 | 12 => 12 | 75 => 167 | 76 => 168 | 77 => 169 | 78 => 170 | 79 => 171 | 80 => 172 | n => n, fun | n => n⟩
theorem sl6 : Go.Proofs.LaysGg.n6 Tryz.prog sl6_ren := {
  mixed := by kernel_rfl
  f6 := Tryz.func62.trans (congrArg some (by kernel_rfl))
  f10 := Tryz.func76.trans (congrArg some (by kernel_rfl))
  f11 := Tryz.func77.trans (congrArg some (by kernel_rfl))
  f12 := Tryz.func78.trans (congrArg some (by kernel_rfl))
  f13 := Tryz.func79.trans (congrArg some (by kernel_rfl))
  f14 := Tryz.func80.trans (congrArg some (by kernel_rfl))
  f24 := Tryz.func97.trans (congrArg some (by kernel_rfl))
  f25 := Tryz.func98.trans (congrArg some (by kernel_rfl))
  f26 := Tryz.func99.trans (congrArg some (by kernel_rfl))
  f27 := Tryz.func100.trans (congrArg some (by kernel_rfl))
  f28 := Tryz.func101.trans (congrArg some (by kernel_rfl))
  f29 := Tryz.func102.trans (congrArg some (by kernel_rfl))
  f30 := Tryz.func103.trans (congrArg some (by kernel_rfl))
  f31 := Tryz.func104.trans (congrArg some (by kernel_rfl))
  f32 := Tryz.func105.trans (congrArg some (by kernel_rfl))
  f33 := Tryz.func106.trans (congrArg some (by kernel_rfl))
  f34 := Tryz.func109.trans (congrArg some (by kernel_rfl))
  f35 := Tryz.func110.trans (congrArg some (by kernel_rfl))
  f36 := Tryz.func111.trans (congrArg some (by kernel_rfl))
  f37 := Tryz.func112.trans (congrArg some (by kernel_rfl))
  f38 := Tryz.func113.trans (congrArg some (by kernel_rfl))
  f39 := Tryz.func114.trans (congrArg some (by kernel_rfl))
  t0 := Tryz.underlying0
  a0 := Tryz.isAgg0
  z0 := Tryz.sizeOf0
  v0 := Tryz.zeroValue0
  i0 := by kernel_rfl
  t3 := Tryz.underlying3
  a3 := Tryz.isAgg3
  z3 := Tryz.sizeOf3
  v3 := Tryz.zeroValue3
  i3 := by kernel_rfl
  t4 := Tryz.underlying4
  a4 := Tryz.isAgg4
  z4 := Tryz.sizeOf4
  v4 := Tryz.zeroValue4
  i4 := by kernel_rfl
  t5 := Tryz.underlying5
  a5 := Tryz.isAgg5
  z5 := Tryz.sizeOf5
  v5 := Tryz.zeroValue5
  i5 := by kernel_rfl
  t9 := Tryz.underlying9
  a9 := Tryz.isAgg9
  z9 := Tryz.sizeOf9
  v9 := Tryz.zeroValue9
  i9 := by kernel_rfl
  t12 := Tryz.underlying12
  a12 := Tryz.isAgg12
  z12 := Tryz.sizeOf12
  v12 := Tryz.zeroValue12
  i12 := by kernel_rfl
  t17 := Tryz.underlying17
  a17 := Tryz.isAgg17
  z17 := Tryz.sizeOf17
  v17 := Tryz.zeroValue17
  i17 := by kernel_rfl
  t20 := Tryz.underlying20
  a20 := Tryz.isAgg20
  z20 := Tryz.sizeOf20
  v20 := Tryz.zeroValue20
  i20 := by kernel_rfl
  t26 := Tryz.underlying106
  a26 := Tryz.isAgg106
  z26 := Tryz.sizeOf106
  v26 := Tryz.zeroValue106
  i26 := by kernel_rfl
  t32 := Tryz.underlying120
  a32 := Tryz.isAgg120
  z32 := Tryz.sizeOf120
  v32 := Tryz.zeroValue120
  i32 := by kernel_rfl
  t33 := Tryz.underlying121
  a33 := Tryz.isAgg121
  z33 := Tryz.sizeOf121
  v33 := Tryz.zeroValue121
  i33 := by kernel_rfl
  t35 := Tryz.underlying123
  a35 := Tryz.isAgg123
  z35 := Tryz.sizeOf123
  v35 := Tryz.zeroValue123
  i35 := by kernel_rfl
  t37 := Tryz.underlying116
  a37 := Tryz.isAgg116
  z37 := Tryz.sizeOf116
  v37 := Tryz.zeroValue116
  i37 := by kernel_rfl
  t41 := Tryz.underlying127
  a41 := Tryz.isAgg127
  z41 := Tryz.sizeOf127
  v41 := Tryz.zeroValue127
  i41 := by kernel_rfl
  t44 := Tryz.underlying130
  a44 := Tryz.isAgg130
  z44 := Tryz.sizeOf130
  v44 := Tryz.zeroValue130
  i44 := by kernel_rfl
  t49 := Tryz.underlying141
  a49 := Tryz.isAgg141
  z49 := Tryz.sizeOf141
  v49 := Tryz.zeroValue141
  i49 := by kernel_rfl
  t51 := Tryz.underlying67
  a51 := Tryz.isAgg67
  z51 := Tryz.sizeOf67
  v51 := Tryz.zeroValue67
  i51 := by kernel_rfl
  t53 := Tryz.underlying144
  a53 := Tryz.isAgg144
  z53 := Tryz.sizeOf144
  v53 := Tryz.zeroValue144
  i53 := by kernel_rfl
  t54 := Tryz.underlying145
  a54 := Tryz.isAgg145
  z54 := Tryz.sizeOf145
  v54 := Tryz.zeroValue145
  i54 := by kernel_rfl
  t58 := Tryz.underlying149
  a58 := Tryz.isAgg149
  z58 := Tryz.sizeOf149
  v58 := Tryz.zeroValue149
  i58 := by kernel_rfl
  t60 := Tryz.underlying153
  a60 := Tryz.isAgg153
  z60 := Tryz.sizeOf153
  v60 := Tryz.zeroValue153
  i60 := by kernel_rfl
  t64 := Tryz.underlying157
  a64 := Tryz.isAgg157
  z64 := Tryz.sizeOf157
  v64 := Tryz.zeroValue157
  i64 := by kernel_rfl
  t66 := Tryz.underlying159
  a66 := Tryz.isAgg159
  z66 := Tryz.sizeOf159
  v66 := Tryz.zeroValue159
  i66 := by kernel_rfl
  t67 := Tryz.underlying110
  a67 := Tryz.isAgg110
  z67 := Tryz.sizeOf110
  v67 := Tryz.zeroValue110
  i67 := by kernel_rfl
  t75 := Tryz.underlying167
  a75 := Tryz.isAgg167
  z75 := Tryz.sizeOf167
  v75 := Tryz.zeroValue167
  i75 := by kernel_rfl
  t76 := Tryz.underlying168
  a76 := Tryz.isAgg168
  z76 := Tryz.sizeOf168
  v76 := Tryz.zeroValue168
  i76 := by kernel_rfl
  t77 := Tryz.underlying169
  a77 := Tryz.isAgg169
  z77 := Tryz.sizeOf169
  v77 := Tryz.zeroValue169
  i77 := by kernel_rfl
  t78 := Tryz.underlying170
  a78 := Tryz.isAgg170
  z78 := Tryz.sizeOf170
  v78 := Tryz.zeroValue170
  i78 := by kernel_rfl
  t79 := Tryz.underlying171
  a79 := Tryz.isAgg171
  z79 := Tryz.sizeOf171
  v79 := Tryz.zeroValue171
  i79 := by kernel_rfl
  t80 := Tryz.underlying172
  a80 := Tryz.isAgg172
  z80 := Tryz.sizeOf172
  v80 := Tryz.zeroValue172
  i80 := by kernel_rfl
  t82 := Tryz.underlying174
  a82 := Tryz.isAgg174
  z82 := Tryz.sizeOf174
  v82 := Tryz.zeroValue174
  i82 := by kernel_rfl }

noncomputable def shT : TypeInfo := (Tryz.prog.info? 22).get (by kernel_rfl)
noncomputable def shE : TypeInfo := (Tryz.prog.info? 32).get (by kernel_rfl)
theorem shK (n : Nat) : Lib.swapperK n shE 25 = if n = 0 then 1 else if n = 1 then 2 else 9 := by
  have a : shE.hasPointers = false := by kernel_rfl
  have b : shE.bytes = 48 := by kernel_rfl
  by_cases h0 : n = 0
  · subst h0; simp [Lib.swapperK]
  by_cases h1 : n = 1
  · subst h1; simp [Lib.swapperK]
  have c : (n == 0) = false := by simpa using h0
  have d : (n == 1) = false := by simpa using h1
  simp [Lib.swapperK, a, b, c, d, h0, h1]
set_option maxHeartbeats 2000000 in
theorem lessShapes (blk off c Bs size : Nat) (W : World) (G : Nat → Int) (hs : W.cell? ⟨Bs, 0, none⟩ = some (.slice (some ⟨blk, off, none⟩) size c))
    (hc : ∀ t, t < size → W.cell? ⟨blk, off + t * 6, none⟩ = some (.int .i64 (G t))) (i j : Nat) (hi : i < size) (hj : j < size) (_hsz : size < 4611686018427387904) :
    Calls Tryz.prog 63 #[.int .i64 i, .int .i64 j, .pointer (some ⟨Bs, 0, none⟩)] W fun e w' => e = .returned (.bool (decide (G i < G j))) ∧ ∃ q, w' = W.drewN q := by
  have ci := hc i hi
  have cj := hc j hj
  go_enter Tryz.func63, Tryz.ntmps63
  go_wp2
  go_quiet (fail)
  go_wp2
  go_ret
  exact ⟨rfl, nq, rfl⟩
namespace AM
theorem hflat_get {α β : Type} {enc : α → List β} {k : Nat} (hk : ∀ x, (enc x).length = k) : ∀ {ys : List α} {q m : Nat} (hq : q < ys.length), m < k → (ys.flatMap enc)[q * k + m]? = (enc ys[q])[m]?
  | [], _, _, hq, _ => by simp at hq
  | y :: ys, 0, m, _, hm => by
    rw [List.flatMap_cons, Nat.zero_mul, Nat.zero_add, List.getElem?_append_left (by rw [hk]; exact hm)]
    rfl
  | y :: ys, q + 1, m, hq, hm => by
    rw [List.flatMap_cons, List.getElem?_append_right (by rw [hk, Nat.succ_mul]; omega), hk]
    have : (q + 1) * k + m - k = q * k + m := by rw [Nat.succ_mul]; omega
    rw [this, hflat_get hk (by simpa using hq) hm]
    rfl
theorem hflatK_list {α : Type} [Inhabited α] {enc : α → List Value} {k : Nat} (hk : ∀ x, (enc x).length = k) (hk0 : 0 < k) (ys : List α) : (flatK enc k ys.toArray).toList = ys.flatMap enc := by
  have hl : (ys.flatMap enc).length = ys.length * k := by
    induction ys with
    | nil => simp
    | cons y ys ih => rw [List.flatMap_cons, List.length_append, hk, ih, List.length_cons, Nat.succ_mul, Nat.add_comm]
  apply List.ext_getElem?
  intro j
  by_cases hj : j < ys.length * k
  · have h1 : (flatK enc k ys.toArray).toList[j]? = some (enc ys.toArray[j / k]!)[j % k]! := by
      have := get_flatK enc k ys.toArray j (by simpa using hj)
      rw [Array.getElem?_toList, ← this]
      rw [Array.getElem?_eq_getElem (by simpa using hj), getElem!_pos _ j (by simpa using hj)]
    rw [h1]
    have hq : j / k < ys.length := Nat.div_lt_of_lt_mul (by rw [Nat.mul_comm]; exact hj)
    have hm : j % k < k := Nat.mod_lt _ hk0
    have h2 := AM.hflat_get hk hq hm
    rw [show j / k * k + j % k = j by rw [Nat.mul_comm]; exact Nat.div_add_mod j k] at h2
    rw [h2]
    have e1 : ys.toArray[j / k]! = ys[j / k] := by rw [getElem!_pos ys.toArray (j / k) (by simpa using hq)]; simp
    rw [e1, getElem!_pos _ (j % k) (by rw [hk]; exact hm), List.getElem?_eq_getElem (by rw [hk]; exact hm)]
  · rw [List.getElem?_eq_none (by simp; omega), List.getElem?_eq_none (by rw [hl]; omega)]
end AM
def encS (s : Sh) : List Value := [.int .i64 s.id, .int .i64 s.box.x0, .int .i64 s.box.y0, .int .i64 s.box.x1, .int .i64 s.box.y1, .int .i64 s.lab]
def ltS (a b : Sh) : Bool := decide (a.id < b.id)
theorem swoS : SWO ltS where
  irrefl x := by simp [ltS]
  trans x y z h1 h2 := by simp [ltS] at *; omega
  ntrans x y z h1 h2 := by simp [ltS] at *; omega
def SortedBy (zs ys : List Sh) : Prop := ys.Perm zs ∧ ys.Pairwise fun p q => p.id ≤ q.id
theorem shortS : ∀ {zs : List Sh}, zs.length ≤ 1 → zs.Pairwise fun p q => p.id ≤ q.id
  | [], _ => List.Pairwise.nil
  | [a], _ => List.pairwise_singleton _ _
  | _ :: _ :: _, h => by simp at h
set_option maxHeartbeats 2000000 in
theorem sortsShapes : AM.SortsIn Tryz.prog 62 22 63 32 6 encS SortedBy := by
  refine ⟨?_, fun Bs w => ?_⟩
  rotate_left
  · have hS := Any.sort_Slice_tiny { sl6 with } 22 32 shT shE (by kernel_rfl) (by kernel_rfl) (by kernel_rfl) (by kernel_rfl) 25 (fun _ => by kernel_rfl) .none 0 0 (by decide) 88 (by rw [shK]; kernel_rfl) (.func 63) #[] #[.pointer (some ⟨Bs, 0, .none⟩)] w
    refine Calls.mono (show Calls Tryz.prog 62 _ _ _ from hS) fun e w' he => ?_
    obtain ⟨rfl, os, rfl⟩ := he
    exact ⟨rfl, ⟨List.Perm.refl _, List.Pairwise.nil⟩, AM.below_grow⟩
  · intro Bs blk cap zs w hsz hc hne hrow
    rcases hrow.2 with ⟨h, _⟩ | ⟨g', cap', cur, hv, _, hb, h1, h2, h3, h4⟩
    · cases h
    cases hv
    have hk : ∀ x : Sh, (encS x).length = 6 := fun _ => rfl
    have hfl : ∀ ys : List Sh, (flatK encS 6 ys.toArray).toList = ys.flatMap encS := fun ys => AM.hflatK_list hk (by decide) ys
    have hfs : ∀ ys : List Sh, (flatK encS 6 ys.toArray) = (ys.flatMap encS).toArray := fun ys => by rw [← hfl]
    have hfn : ∀ ys : List Sh, (ys.flatMap encS).length = ys.length * 6 := fun ys => by rw [← hfl]; simp
    have hblk : blk < w.heap.size := (Array.getElem?_eq_some_iff.1 hb).1
    by_cases h0 : zs.length ≤ 1
    · have hS := Any.sort_Slice_tiny { sl6 with } 22 32 shT shE (by kernel_rfl) (by kernel_rfl) (by kernel_rfl) (by kernel_rfl) 25 (fun _ => by kernel_rfl) (some ⟨blk, 0, .none⟩) zs.length cap h0 (if zs.length = 0 then 88 else 89)
        (by
          rw [shK]
          rcases (show zs.length = 0 ∨ zs.length = 1 by omega) with h | h <;> rw [h] <;> kernel_rfl) (.func 63) #[] #[.pointer (some ⟨Bs, 0, .none⟩)] w
      refine Calls.mono (show Calls Tryz.prog 62 _ _ _ from hS) fun e w' he => ?_
      obtain ⟨rfl, os, rfl⟩ := he
      refine ⟨rfl, zs, ⟨List.Perm.refl _, ?_⟩, rfl, ?_⟩
      · exact shortS h0
      · exact ⟨rfl, rfl, rfl, by simp, fun k hne hk => heap_grow_old _ _ hk, by rw [hfn], .inr ⟨blk, cap, cur, rfl, Nat.zero_le _, (heap_grow_old _ _ hblk).trans hb, h1, h2, h3, h4⟩⟩
    · have hBs : Bs < w.heap.size := World.block_lt_of_cell? w ⟨Bs, 0, .none⟩ hc
      have hH : HoldsK encS 6 w blk 0 zs.toArray := by
        unfold HoldsK
        rw [hfs]
        exact AM.holds_of_row (enc := id) (ss := zs.flatMap encS) hb (by rw [hfn, h4]; simp)
      have hless : LessReadsK Tryz.prog 63 #[.pointer (some ⟨Bs, 0, .none⟩)] encS 6 ltS blk 0 zs.toArray.size w := by
        intro m os dk hs i j hi hj
        have e : sortWorldK encS 6 w blk 0 m dk os = putRowK encS 6 (grow (Sort.ahead w m) os) blk 0 dk := by
          unfold sortWorldK; rw [putRowK_grow _ _ (Sort.ahead w m) _ blk 0 _ hblk]
        have hHg : HoldsK encS 6 (grow (Sort.ahead w m) os) blk 0 zs.toArray := holdsK_grow _ _ _ _ blk 0 _ hblk (holdsK_ahead _ _ _ _ _ _ _ hH)
        refine lessShapes blk 0 cap Bs zs.toArray.size _ (fun t => dk[t]!.id) ?_ (fun t ht => ?_) i j hi hj (by simpa using hsz)
        · rw [e, cell?_putRowK_other _ _ _ blk 0 dk _ (by exact hne), cell?_grow _ _ _ (by exact hBs)]
          simpa using hc
        · rw [e]
          have := ((holdsK_putRowK _ _ _ blk 0 zs.toArray dk hHg hs).cell (i := t) (c := 0) (by omega) (by omega)).1
          simpa [encS] using this
      have hS := Any.sort_Slice_cells_sorted sl6 22 32 shT shE (by kernel_rfl) (by kernel_rfl) (by kernel_rfl) (by kernel_rfl) 25 (fun _ => by kernel_rfl) encS 6 hk (by kernel_rfl) (fun _ => by kernel_rfl)
        (fun x v hv => by simp [encS] at hv; rcases hv with rfl | rfl | rfl | rfl | rfl | rfl <;> rfl) ltS swoS 63 _
        (enters_of Tryz.func63 (by kernel_rfl) rfl) blk 0 cap zs.toArray (by simp; omega) (by simpa using hsz) 96 (by
          rw [shK, if_neg (by rw [List.size_toArray]; omega), if_neg (by rw [List.size_toArray]; omega)]; kernel_rfl) false
        (fun args W => run_callFunc_extern Tryz.func96 (by kernel_rfl) (by kernel_rfl) (by kernel_rfl) (e := Extern.ReflectliteSwapper.swap false) (by kernel_rfl) args W) w hless hH hblk
      refine Calls.mono (show Calls Tryz.prog 62 _ _ _ from hS) fun e w' he => ?_
      obtain ⟨rfl, d', n, os, hp, hso, rfl⟩ := he
      obtain ⟨hp1, _, hp3⟩ := hp
      have e1 : d'.extract 0 zs.toArray.size = d' := by rw [← hp1]; simp
      have e2 : zs.toArray.extract 0 zs.toArray.size = zs.toArray := by simp
      rw [e1, e2] at hp3
      have hperm : d'.toList.Perm zs := hp3
      have hl : d'.toList.length = zs.length := hperm.length_eq
      refine ⟨rfl, d'.toList, ⟨hperm, ?_⟩, hl, ?_⟩
      · rw [List.pairwise_iff_getElem]
        intro i j hi hj hij
        have hj' : j < d'.size := by simpa using hj
        have hi' : i < d'.size := by omega
        have hjz : j < zs.toArray.size := by rw [← hp1]; exact hj'
        have := hso i j (Nat.zero_le _) hij hjz
        rw [getElem!_pos d' i hi', getElem!_pos d' j hj'] at this
        simp only [ltS, decide_eq_false_iff_not, Int.not_lt] at this
        simpa using this
      · unfold putRowK
        have e3 : flatK encS 6 d' = (d'.toList.flatMap encS).toArray := hfs d'.toList
        rw [e3]
        have hh := AM.heap_put (enc := id) (n := n) (os := os) (d'.toList.flatMap encS).toArray hb
        have ht := AM.take_put (enc := id) cur (d'.toList.flatMap encS) (by rw [hfn, hl, h3]; exact Nat.mul_le_mul_right 6 h1)
        rw [hfn] at ht
        refine ⟨rfl, rfl, rfl, by simp, fun k hne hk => ?_, by rw [hfn, hl], .inr ⟨blk, cap, _, rfl, Nat.zero_le _, hh, h1, h2, by simp [putCells, h3], by rw [← hl, ht]; simp⟩⟩
        rw [heap_grow_old _ _ (by simpa using hk)]
        simp [putRow, mapBlock, Sort.ahead, Array.getElem?_modify, Ne.symm hne]
end Go.Proofs.YtdeemchhbgomjaaGreat
