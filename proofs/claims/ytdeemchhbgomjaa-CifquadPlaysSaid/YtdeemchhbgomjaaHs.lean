/- sort.Slice at shapes by their numbers: the shelf's contract at this program, and the closure. -/
import Derived.Shelf.GgSortFunc.Tiny
import Derived.Shelf.SlSortFuncK.WholeK
import Derived.Deep.QuietTactic
import Derived.Ground.GgsProg
import Derived.Test.YtdeemchhbgomjaaAw1
import Derived.Test.YtdeemchhbgomjaaHd
namespace Go.Proofs.Ytdeemchhbgomjaa
set_option linter.all false
open Go.Shelf Go.RowKit Go.Lib Go.Sort
set_option maxRecDepth 10000

def sl6_ren : Go.Shelf.Ren := ⟨fun | 6 => 60 | 10 => 73 | 11 => 74 | 12 => 75 | 13 => 76 | 14 => 77 | 24 => 92 | 25 => 93 | 26 => 94 | 27 => 95 | 28 => 96 | 29 => 97 | 30 => 98 | 31 => 99 | 32 => 100 | 33 => 101 | 34 => 102 | 35 => 103 | 36 => 104 | 37 => 105 | 38 => 106 | 39 => 107 | n => n, fun | 20 => 20 | 26 => 90 | 35 => 101 | 0 => 0 | 37 => 103 | 3 => 3 | 41 => 106 | 44 => 109 | 49 => 116 | 51 => 118 | 4 => 4 | 54 => 121 | 53 => 120 | 58 => 125 | 5 => 5 | 9 => 9 | 60 => 127 | 64 => 131 | 66 => 133 | 67 => 95 | 17 => 17 | 32 => 98 | 33 => 99 | 82 => 148 | 12 => 12 | 75 => 141 | 76 => 142 | 77 => 143 | 78 => 144 | 79 => 145 | 80 => 146 | n => n, fun | n => n⟩
theorem sl6 : Go.Proofs.LaysGg.n6 Try.prog sl6_ren := {
  mixed := by kernel_rfl
  f6 := Try.func60.trans (congrArg some (by kernel_rfl))
  f10 := Try.func73.trans (congrArg some (by kernel_rfl))
  f11 := Try.func74.trans (congrArg some (by kernel_rfl))
  f12 := Try.func75.trans (congrArg some (by kernel_rfl))
  f13 := Try.func76.trans (congrArg some (by kernel_rfl))
  f14 := Try.func77.trans (congrArg some (by kernel_rfl))
  f24 := Try.func92.trans (congrArg some (by kernel_rfl))
  f25 := Try.func93.trans (congrArg some (by kernel_rfl))
  f26 := Try.func94.trans (congrArg some (by kernel_rfl))
  f27 := Try.func95.trans (congrArg some (by kernel_rfl))
  f28 := Try.func96.trans (congrArg some (by kernel_rfl))
  f29 := Try.func97.trans (congrArg some (by kernel_rfl))
  f30 := Try.func98.trans (congrArg some (by kernel_rfl))
  f31 := Try.func99.trans (congrArg some (by kernel_rfl))
  f32 := Try.func100.trans (congrArg some (by kernel_rfl))
  f33 := Try.func101.trans (congrArg some (by kernel_rfl))
  f34 := Try.func102.trans (congrArg some (by kernel_rfl))
  f35 := Try.func103.trans (congrArg some (by kernel_rfl))
  f36 := Try.func104.trans (congrArg some (by kernel_rfl))
  f37 := Try.func105.trans (congrArg some (by kernel_rfl))
  f38 := Try.func106.trans (congrArg some (by kernel_rfl))
  f39 := Try.func107.trans (congrArg some (by kernel_rfl))
  t0 := Try.underlying0
  a0 := Try.isAgg0
  z0 := Try.sizeOf0
  v0 := Try.zeroValue0
  i0 := by kernel_rfl
  t3 := Try.underlying3
  a3 := Try.isAgg3
  z3 := Try.sizeOf3
  v3 := Try.zeroValue3
  i3 := by kernel_rfl
  t4 := Try.underlying4
  a4 := Try.isAgg4
  z4 := Try.sizeOf4
  v4 := Try.zeroValue4
  i4 := by kernel_rfl
  t5 := Try.underlying5
  a5 := Try.isAgg5
  z5 := Try.sizeOf5
  v5 := Try.zeroValue5
  i5 := by kernel_rfl
  t9 := Try.underlying9
  a9 := Try.isAgg9
  z9 := Try.sizeOf9
  v9 := Try.zeroValue9
  i9 := by kernel_rfl
  t12 := Try.underlying12
  a12 := Try.isAgg12
  z12 := Try.sizeOf12
  v12 := Try.zeroValue12
  i12 := by kernel_rfl
  t17 := Try.underlying17
  a17 := Try.isAgg17
  z17 := Try.sizeOf17
  v17 := Try.zeroValue17
  i17 := by kernel_rfl
  t20 := Try.underlying20
  a20 := Try.isAgg20
  z20 := Try.sizeOf20
  v20 := Try.zeroValue20
  i20 := by kernel_rfl
  t26 := Try.underlying90
  a26 := Try.isAgg90
  z26 := Try.sizeOf90
  v26 := Try.zeroValue90
  i26 := by kernel_rfl
  t32 := Try.underlying98
  a32 := Try.isAgg98
  z32 := Try.sizeOf98
  v32 := Try.zeroValue98
  i32 := by kernel_rfl
  t33 := Try.underlying99
  a33 := Try.isAgg99
  z33 := Try.sizeOf99
  v33 := Try.zeroValue99
  i33 := by kernel_rfl
  t35 := Try.underlying101
  a35 := Try.isAgg101
  z35 := Try.sizeOf101
  v35 := Try.zeroValue101
  i35 := by kernel_rfl
  t37 := Try.underlying103
  a37 := Try.isAgg103
  z37 := Try.sizeOf103
  v37 := Try.zeroValue103
  i37 := by kernel_rfl
  t41 := Try.underlying106
  a41 := Try.isAgg106
  z41 := Try.sizeOf106
  v41 := Try.zeroValue106
  i41 := by kernel_rfl
  t44 := Try.underlying109
  a44 := Try.isAgg109
  z44 := Try.sizeOf109
  v44 := Try.zeroValue109
  i44 := by kernel_rfl
  t49 := Try.underlying116
  a49 := Try.isAgg116
  z49 := Try.sizeOf116
  v49 := Try.zeroValue116
  i49 := by kernel_rfl
  t51 := Try.underlying118
  a51 := Try.isAgg118
  z51 := Try.sizeOf118
  v51 := Try.zeroValue118
  i51 := by kernel_rfl
  t53 := Try.underlying120
  a53 := Try.isAgg120
  z53 := Try.sizeOf120
  v53 := Try.zeroValue120
  i53 := by kernel_rfl
  t54 := Try.underlying121
  a54 := Try.isAgg121
  z54 := Try.sizeOf121
  v54 := Try.zeroValue121
  i54 := by kernel_rfl
  t58 := Try.underlying125
  a58 := Try.isAgg125
  z58 := Try.sizeOf125
  v58 := Try.zeroValue125
  i58 := by kernel_rfl
  t60 := Try.underlying127
  a60 := Try.isAgg127
  z60 := Try.sizeOf127
  v60 := Try.zeroValue127
  i60 := by kernel_rfl
  t64 := Try.underlying131
  a64 := Try.isAgg131
  z64 := Try.sizeOf131
  v64 := Try.zeroValue131
  i64 := by kernel_rfl
  t66 := Try.underlying133
  a66 := Try.isAgg133
  z66 := Try.sizeOf133
  v66 := Try.zeroValue133
  i66 := by kernel_rfl
  t67 := Try.underlying95
  a67 := Try.isAgg95
  z67 := Try.sizeOf95
  v67 := Try.zeroValue95
  i67 := by kernel_rfl
  t75 := Try.underlying141
  a75 := Try.isAgg141
  z75 := Try.sizeOf141
  v75 := Try.zeroValue141
  i75 := by kernel_rfl
  t76 := Try.underlying142
  a76 := Try.isAgg142
  z76 := Try.sizeOf142
  v76 := Try.zeroValue142
  i76 := by kernel_rfl
  t77 := Try.underlying143
  a77 := Try.isAgg143
  z77 := Try.sizeOf143
  v77 := Try.zeroValue143
  i77 := by kernel_rfl
  t78 := Try.underlying144
  a78 := Try.isAgg144
  z78 := Try.sizeOf144
  v78 := Try.zeroValue144
  i78 := by kernel_rfl
  t79 := Try.underlying145
  a79 := Try.isAgg145
  z79 := Try.sizeOf145
  v79 := Try.zeroValue145
  i79 := by kernel_rfl
  t80 := Try.underlying146
  a80 := Try.isAgg146
  z80 := Try.sizeOf146
  v80 := Try.zeroValue146
  i80 := by kernel_rfl
  t82 := Try.underlying148
  a82 := Try.isAgg148
  z82 := Try.sizeOf148
  v82 := Try.zeroValue148
  i82 := by kernel_rfl }

noncomputable def shT : TypeInfo := (Try.prog.info? 22).get (by kernel_rfl)
noncomputable def shE : TypeInfo := (Try.prog.info? 38).get (by kernel_rfl)
theorem shK (n : Nat) : Lib.swapperK n shE 25 = if n = 0 then 1 else if n = 1 then 2 else 9 := by
  have a : shE.hasPointers = false := by kernel_rfl
  have b : shE.bytes = 48 := by kernel_rfl
  by_cases h0 : n = 0
  · subst h0; simp [Lib.swapperK]
  by_cases h1 : n = 1
  · subst h1; simp [Lib.swapperK]
  have c : (n == 0) = false := by simpa using h0
  have d : (n == 1) = false := by simpa using h1
  simp [Lib.swapperK, a, b, c, d, h0, h1]
set_option maxHeartbeats 2000000 in
theorem lessShapes (blk off c Bs size : Nat) (W : World) (G : Nat → Int) (hs : W.cell? ⟨Bs, 0, none⟩ = some (.slice (some ⟨blk, off, none⟩) size c))
    (hc : ∀ t, t < size → W.cell? ⟨blk, off + t * 6, none⟩ = some (.int .i64 (G t))) (i j : Nat) (hi : i < size) (hj : j < size) (_hsz : size < 4611686018427387904) :
    Calls Try.prog 61 #[.int .i64 i, .int .i64 j, .pointer (some ⟨Bs, 0, none⟩)] W fun e w' => e = .returned (.bool (decide (G i < G j))) ∧ ∃ q, w' = W.drewN q := by
  have ci := hc i hi
  have cj := hc j hj
  go_enter Try.func61, Try.ntmps61
  go_wp2
  go_quiet (fail)
  go_wp2
  go_ret
  exact ⟨rfl, nq, rfl⟩
namespace AM
theorem hflat_get {α β : Type} {enc : α → List β} {k : Nat} (hk : ∀ x, (enc x).length = k) : ∀ {ys : List α} {q m : Nat} (hq : q < ys.length), m < k → (ys.flatMap enc)[q * k + m]? = (enc ys[q])[m]?
  | [], _, _, hq, _ => by simp at hq
  | y :: ys, 0, m, _, hm => by
    rw [List.flatMap_cons, Nat.zero_mul, Nat.zero_add, List.getElem?_append_left (by rw [hk]; exact hm)]
    rfl
  | y :: ys, q + 1, m, hq, hm => by
    rw [List.flatMap_cons, List.getElem?_append_right (by rw [hk, Nat.succ_mul]; omega), hk]
    have : (q + 1) * k + m - k = q * k + m := by rw [Nat.succ_mul]; omega
    rw [this, hflat_get hk (by simpa using hq) hm]
    rfl
theorem hflatK_list {α : Type} [Inhabited α] {enc : α → List Value} {k : Nat} (hk : ∀ x, (enc x).length = k) (hk0 : 0 < k) (ys : List α) : (flatK enc k ys.toArray).toList = ys.flatMap enc := by
  have hl : (ys.flatMap enc).length = ys.length * k := by
    induction ys with
    | nil => simp
    | cons y ys ih => rw [List.flatMap_cons, List.length_append, hk, ih, List.length_cons, Nat.succ_mul, Nat.add_comm]
  apply List.ext_getElem?
  intro j
  by_cases hj : j < ys.length * k
  · have h1 : (flatK enc k ys.toArray).toList[j]? = some (enc ys.toArray[j / k]!)[j % k]! := by
      have := get_flatK enc k ys.toArray j (by simpa using hj)
      rw [Array.getElem?_toList, ← this]
      rw [Array.getElem?_eq_getElem (by simpa using hj), getElem!_pos _ j (by simpa using hj)]
    rw [h1]
    have hq : j / k < ys.length := Nat.div_lt_of_lt_mul (by rw [Nat.mul_comm]; exact hj)
    have hm : j % k < k := Nat.mod_lt _ hk0
    have h2 := AM.hflat_get hk hq hm
    rw [show j / k * k + j % k = j by rw [Nat.mul_comm]; exact Nat.div_add_mod j k] at h2
    rw [h2]
    have e1 : ys.toArray[j / k]! = ys[j / k] := by rw [getElem!_pos ys.toArray (j / k) (by simpa using hq)]; simp
    rw [e1, getElem!_pos _ (j % k) (by rw [hk]; exact hm), List.getElem?_eq_getElem (by rw [hk]; exact hm)]
  · rw [List.getElem?_eq_none (by simp; omega), List.getElem?_eq_none (by rw [hl]; omega)]
end AM
def encS (s : Sh) : List Value := [.int .i64 s.id, .int .i64 s.box.x0, .int .i64 s.box.y0, .int .i64 s.box.x1, .int .i64 s.box.y1, .int .i64 s.lab]
def ltS (a b : Sh) : Bool := decide (a.id < b.id)
theorem swoS : SWO ltS where
  irrefl x := by simp [ltS]
  trans x y z h1 h2 := by simp [ltS] at *; omega
  ntrans x y z h1 h2 := by simp [ltS] at *; omega
def SortedBy (zs ys : List Sh) : Prop := ys.Perm zs ∧ ys.Pairwise fun p q => p.id ≤ q.id
theorem shortS : ∀ {zs : List Sh}, zs.length ≤ 1 → zs.Pairwise fun p q => p.id ≤ q.id
  | [], _ => List.Pairwise.nil
  | [a], _ => List.pairwise_singleton _ _
  | _ :: _ :: _, h => by simp at h
set_option maxHeartbeats 2000000 in
theorem sortsShapes : AM.SortsIn Try.prog 60 22 61 38 6 encS SortedBy := by
  refine ⟨?_, fun Bs w => ?_⟩
  rotate_left
  · have hS := Any.sort_Slice_tiny { sl6 with } 22 38 shT shE (by kernel_rfl) (by kernel_rfl) (by kernel_rfl) (by kernel_rfl) 25 (fun _ => by kernel_rfl) .none 0 0 (by decide) 83 (by rw [shK]; kernel_rfl) (.func 61) #[] #[.pointer (some ⟨Bs, 0, .none⟩)] w
    refine Calls.mono (show Calls Try.prog 60 _ _ _ from hS) fun e w' he => ?_
    obtain ⟨rfl, os, rfl⟩ := he
    exact ⟨rfl, ⟨List.Perm.refl _, List.Pairwise.nil⟩, AM.below_grow⟩
  · intro Bs blk cap zs w hsz hc hne hrow
    rcases hrow.2 with ⟨h, _⟩ | ⟨g', cap', cur, hv, _, hb, h1, h2, h3, h4⟩
    · cases h
    cases hv
    have hk : ∀ x : Sh, (encS x).length = 6 := fun _ => rfl
    have hfl : ∀ ys : List Sh, (flatK encS 6 ys.toArray).toList = ys.flatMap encS := fun ys => AM.hflatK_list hk (by decide) ys
    have hfs : ∀ ys : List Sh, (flatK encS 6 ys.toArray) = (ys.flatMap encS).toArray := fun ys => by rw [← hfl]
    have hfn : ∀ ys : List Sh, (ys.flatMap encS).length = ys.length * 6 := fun ys => by rw [← hfl]; simp
    have hblk : blk < w.heap.size := (Array.getElem?_eq_some_iff.1 hb).1
    by_cases h0 : zs.length ≤ 1
    · have hS := Any.sort_Slice_tiny { sl6 with } 22 38 shT shE (by kernel_rfl) (by kernel_rfl) (by kernel_rfl) (by kernel_rfl) 25 (fun _ => by kernel_rfl) (some ⟨blk, 0, .none⟩) zs.length cap h0 (if zs.length = 0 then 83 else 84)
        (by
          rw [shK]
          rcases (show zs.length = 0 ∨ zs.length = 1 by omega) with h | h <;> rw [h] <;> kernel_rfl) (.func 61) #[] #[.pointer (some ⟨Bs, 0, .none⟩)] w
      refine Calls.mono (show Calls Try.prog 60 _ _ _ from hS) fun e w' he => ?_
      obtain ⟨rfl, os, rfl⟩ := he
      refine ⟨rfl, zs, ⟨List.Perm.refl _, ?_⟩, rfl, ?_⟩
      · exact shortS h0
      · exact ⟨rfl, rfl, rfl, by simp, fun k hne hk => heap_grow_old _ _ hk, by rw [hfn], .inr ⟨blk, cap, cur, rfl, Nat.zero_le _, (heap_grow_old _ _ hblk).trans hb, h1, h2, h3, h4⟩⟩
    · have hBs : Bs < w.heap.size := World.block_lt_of_cell? w ⟨Bs, 0, .none⟩ hc
      have hH : HoldsK encS 6 w blk 0 zs.toArray := by
        unfold HoldsK
        rw [hfs]
        exact AM.holds_of_row (enc := id) (ss := zs.flatMap encS) hb (by rw [hfn, h4]; simp)
      have hless : LessReadsK Try.prog 61 #[.pointer (some ⟨Bs, 0, .none⟩)] encS 6 ltS blk 0 zs.toArray.size w := by
        intro m os dk hs i j hi hj
        have e : sortWorldK encS 6 w blk 0 m dk os = putRowK encS 6 (grow (Sort.ahead w m) os) blk 0 dk := by
          unfold sortWorldK; rw [putRowK_grow _ _ (Sort.ahead w m) _ blk 0 _ hblk]
        have hHg : HoldsK encS 6 (grow (Sort.ahead w m) os) blk 0 zs.toArray := holdsK_grow _ _ _ _ blk 0 _ hblk (holdsK_ahead _ _ _ _ _ _ _ hH)
        refine lessShapes blk 0 cap Bs zs.toArray.size _ (fun t => dk[t]!.id) ?_ (fun t ht => ?_) i j hi hj (by simpa using hsz)
        · rw [e, cell?_putRowK_other _ _ _ blk 0 dk _ (by exact hne), cell?_grow _ _ _ (by exact hBs)]
          simpa using hc
        · rw [e]
          have := ((holdsK_putRowK _ _ _ blk 0 zs.toArray dk hHg hs).cell (i := t) (c := 0) (by omega) (by omega)).1
          simpa [encS] using this
      have hS := Any.sort_Slice_cells_sorted sl6 22 38 shT shE (by kernel_rfl) (by kernel_rfl) (by kernel_rfl) (by kernel_rfl) 25 (fun _ => by kernel_rfl) encS 6 hk (by kernel_rfl) (fun _ => by kernel_rfl)
        (fun x v hv => by simp [encS] at hv; rcases hv with rfl | rfl | rfl | rfl | rfl | rfl <;> rfl) ltS swoS 61 _
        (enters_of Try.func61 (by kernel_rfl) rfl) blk 0 cap zs.toArray (by simp; omega) (by simpa using hsz) 91 (by
          rw [shK, if_neg (by rw [List.size_toArray]; omega), if_neg (by rw [List.size_toArray]; omega)]; kernel_rfl) false
        (fun args W => run_callFunc_extern Try.func91 (by kernel_rfl) (by kernel_rfl) (by kernel_rfl) (e := Extern.ReflectliteSwapper.swap false) (by kernel_rfl) args W) w hless hH hblk
      refine Calls.mono (show Calls Try.prog 60 _ _ _ from hS) fun e w' he => ?_
      obtain ⟨rfl, d', n, os, hp, hso, rfl⟩ := he
      obtain ⟨hp1, _, hp3⟩ := hp
      have e1 : d'.extract 0 zs.toArray.size = d' := by rw [← hp1]; simp
      have e2 : zs.toArray.extract 0 zs.toArray.size = zs.toArray := by simp
      rw [e1, e2] at hp3
      have hperm : d'.toList.Perm zs := hp3
      have hl : d'.toList.length = zs.length := hperm.length_eq
      refine ⟨rfl, d'.toList, ⟨hperm, ?_⟩, hl, ?_⟩
      · rw [List.pairwise_iff_getElem]
        intro i j hi hj hij
        have hj' : j < d'.size := by simpa using hj
        have hi' : i < d'.size := by omega
        have hjz : j < zs.toArray.size := by rw [← hp1]; exact hj'
        have := hso i j (Nat.zero_le _) hij hjz
        rw [getElem!_pos d' i hi', getElem!_pos d' j hj'] at this
        simp only [ltS, decide_eq_false_iff_not, Int.not_lt] at this
        simpa using this
      · unfold putRowK
        have e3 : flatK encS 6 d' = (d'.toList.flatMap encS).toArray := hfs d'.toList
        rw [e3]
        have hh := AM.heap_put (enc := id) (n := n) (os := os) (d'.toList.flatMap encS).toArray hb
        have ht := AM.take_put (enc := id) cur (d'.toList.flatMap encS) (by rw [hfn, hl, h3]; exact Nat.mul_le_mul_right 6 h1)
        rw [hfn] at ht
        refine ⟨rfl, rfl, rfl, by simp, fun k hne hk => ?_, by rw [hfn, hl], .inr ⟨blk, cap, _, rfl, Nat.zero_le _, hh, h1, h2, by simp [putCells, h3], by rw [← hl, ht]; simp⟩⟩
        rw [heap_grow_old _ _ (by simpa using hk)]
        simp [putRow, mapBlock, Sort.ahead, Array.getElem?_modify, Ne.symm hne]
end Go.Proofs.Ytdeemchhbgomjaa
