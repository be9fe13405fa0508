/- sort.Slice at the codes of Points: the shelf's contract at this program, and the closure. -/
import Derived.Shelf.GgSortFunc.Whole
import Derived.Shelf.GgSortFunc.Tiny
import Derived.Deep.QuietTactic
import Derived.Ground.GgsProg
import Derived.Test.YtoooldijnilpaaaAx
import Derived.Test.YtoooldijnilpaaaRows
namespace Go.Proofs.Ytoooldijnilpaaa
set_option linter.all false
open Go.Shelf Go.RowKit Go.Lib Go.Sort

def sl6_ren : Go.Shelf.Ren := ⟨fun | 6 => 64 | 10 => 88 | 11 => 89 | 12 => 90 | 13 => 91 | 14 => 92 | 24 => 115 | 25 => 116 | 26 => 117 | 27 => 118 | 28 => 119 | 29 => 120 | 30 => 121 | 31 => 122 | 32 => 123 | 33 => 124 | 34 => 135 | 35 => 136 | 36 => 137 | 37 => 138 | 38 => 139 | 39 => 143 | n => n, fun | 20 => 20 | 26 => 94 | 35 => 109 | 0 => 0 | 37 => 111 | 3 => 3 | 41 => 105 | 44 => 116 | 49 => 134 | 51 => 67 | 4 => 4 | 54 => 138 | 53 => 137 | 58 => 142 | 5 => 5 | 9 => 9 | 60 => 155 | 64 => 159 | 66 => 164 | 67 => 144 | 17 => 17 | 32 => 106 | 33 => 107 | 82 => 199 | 12 => 12 | 75 => 192 | 76 => 193 | 77 => 194 | 78 => 195 | 79 => 196 | 80 => 197 | n => n, fun | n => n⟩
theorem sl6 : Go.Proofs.LaysGg.n6 Try.prog sl6_ren := {
  mixed := by kernel_rfl
  f6 := Try.func64.trans (congrArg some (by kernel_rfl))
  f10 := Try.func88.trans (congrArg some (by kernel_rfl))
  f11 := Try.func89.trans (congrArg some (by kernel_rfl))
  f12 := Try.func90.trans (congrArg some (by kernel_rfl))
  f13 := Try.func91.trans (congrArg some (by kernel_rfl))
  f14 := Try.func92.trans (congrArg some (by kernel_rfl))
  f24 := Try.func115.trans (congrArg some (by kernel_rfl))
  f25 := Try.func116.trans (congrArg some (by kernel_rfl))
  f26 := Try.func117.trans (congrArg some (by kernel_rfl))
  f27 := Try.func118.trans (congrArg some (by kernel_rfl))
  f28 := Try.func119.trans (congrArg some (by kernel_rfl))
  f29 := Try.func120.trans (congrArg some (by kernel_rfl))
  f30 := Try.func121.trans (congrArg some (by kernel_rfl))
  f31 := Try.func122.trans (congrArg some (by kernel_rfl))
  f32 := Try.func123.trans (congrArg some (by kernel_rfl))
  f33 := Try.func124.trans (congrArg some (by kernel_rfl))
  f34 := Try.func135.trans (congrArg some (by kernel_rfl))
  f35 := Try.func136.trans (congrArg some (by kernel_rfl))
  f36 := Try.func137.trans (congrArg some (by kernel_rfl))
  f37 := Try.func138.trans (congrArg some (by kernel_rfl))
  f38 := Try.func139.trans (congrArg some (by kernel_rfl))
  f39 := Try.func143.trans (congrArg some (by kernel_rfl))
  t0 := Try.underlying0
  a0 := Try.isAgg0
  z0 := Try.sizeOf0
  v0 := Try.zeroValue0
  i0 := by kernel_rfl
  t3 := Try.underlying3
  a3 := Try.isAgg3
  z3 := Try.sizeOf3
  v3 := Try.zeroValue3
  i3 := by kernel_rfl
  t4 := Try.underlying4
  a4 := Try.isAgg4
  z4 := Try.sizeOf4
  v4 := Try.zeroValue4
  i4 := by kernel_rfl
  t5 := Try.underlying5
  a5 := Try.isAgg5
  z5 := Try.sizeOf5
  v5 := Try.zeroValue5
  i5 := by kernel_rfl
  t9 := Try.underlying9
  a9 := Try.isAgg9
  z9 := Try.sizeOf9
  v9 := Try.zeroValue9
  i9 := by kernel_rfl
  t12 := Try.underlying12
  a12 := Try.isAgg12
  z12 := Try.sizeOf12
  v12 := Try.zeroValue12
  i12 := by kernel_rfl
  t17 := Try.underlying17
  a17 := Try.isAgg17
  z17 := Try.sizeOf17
  v17 := Try.zeroValue17
  i17 := by kernel_rfl
  t20 := Try.underlying20
  a20 := Try.isAgg20
  z20 := Try.sizeOf20
  v20 := Try.zeroValue20
  i20 := by kernel_rfl
  t26 := Try.underlying94
  a26 := Try.isAgg94
  z26 := Try.sizeOf94
  v26 := Try.zeroValue94
  i26 := by kernel_rfl
  t32 := Try.underlying106
  a32 := Try.isAgg106
  z32 := Try.sizeOf106
  v32 := Try.zeroValue106
  i32 := by kernel_rfl
  t33 := Try.underlying107
  a33 := Try.isAgg107
  z33 := Try.sizeOf107
  v33 := Try.zeroValue107
  i33 := by kernel_rfl
  t35 := Try.underlying109
  a35 := Try.isAgg109
  z35 := Try.sizeOf109
  v35 := Try.zeroValue109
  i35 := by kernel_rfl
  t37 := Try.underlying111
  a37 := Try.isAgg111
  z37 := Try.sizeOf111
  v37 := Try.zeroValue111
  i37 := by kernel_rfl
  t41 := Try.underlying105
  a41 := Try.isAgg105
  z41 := Try.sizeOf105
  v41 := Try.zeroValue105
  i41 := by kernel_rfl
  t44 := Try.underlying116
  a44 := Try.isAgg116
  z44 := Try.sizeOf116
  v44 := Try.zeroValue116
  i44 := by kernel_rfl
  t49 := Try.underlying134
  a49 := Try.isAgg134
  z49 := Try.sizeOf134
  v49 := Try.zeroValue134
  i49 := by kernel_rfl
  t51 := Try.underlying67
  a51 := Try.isAgg67
  z51 := Try.sizeOf67
  v51 := Try.zeroValue67
  i51 := by kernel_rfl
  t53 := Try.underlying137
  a53 := Try.isAgg137
  z53 := Try.sizeOf137
  v53 := Try.zeroValue137
  i53 := by kernel_rfl
  t54 := Try.underlying138
  a54 := Try.isAgg138
  z54 := Try.sizeOf138
  v54 := Try.zeroValue138
  i54 := by kernel_rfl
  t58 := Try.underlying142
  a58 := Try.isAgg142
  z58 := Try.sizeOf142
  v58 := Try.zeroValue142
  i58 := by kernel_rfl
  t60 := Try.underlying155
  a60 := Try.isAgg155
  z60 := Try.sizeOf155
  v60 := Try.zeroValue155
  i60 := by kernel_rfl
  t64 := Try.underlying159
  a64 := Try.isAgg159
  z64 := Try.sizeOf159
  v64 := Try.zeroValue159
  i64 := by kernel_rfl
  t66 := Try.underlying164
  a66 := Try.isAgg164
  z66 := Try.sizeOf164
  v66 := Try.zeroValue164
  i66 := by kernel_rfl
  t67 := Try.underlying144
  a67 := Try.isAgg144
  z67 := Try.sizeOf144
  v67 := Try.zeroValue144
  i67 := by kernel_rfl
  t75 := Try.underlying192
  a75 := Try.isAgg192
  z75 := Try.sizeOf192
  v75 := Try.zeroValue192
  i75 := by kernel_rfl
  t76 := Try.underlying193
  a76 := Try.isAgg193
  z76 := Try.sizeOf193
  v76 := Try.zeroValue193
  i76 := by kernel_rfl
  t77 := Try.underlying194
  a77 := Try.isAgg194
  z77 := Try.sizeOf194
  v77 := Try.zeroValue194
  i77 := by kernel_rfl
  t78 := Try.underlying195
  a78 := Try.isAgg195
  z78 := Try.sizeOf195
  v78 := Try.zeroValue195
  i78 := by kernel_rfl
  t79 := Try.underlying196
  a79 := Try.isAgg196
  z79 := Try.sizeOf196
  v79 := Try.zeroValue196
  i79 := by kernel_rfl
  t80 := Try.underlying197
  a80 := Try.isAgg197
  z80 := Try.sizeOf197
  v80 := Try.zeroValue197
  i80 := by kernel_rfl
  t82 := Try.underlying199
  a82 := Try.isAgg199
  z82 := Try.sizeOf199
  v82 := Try.zeroValue199
  i82 := by kernel_rfl }

noncomputable def siT : TypeInfo := (Try.prog.info? 92).get (by kernel_rfl)
noncomputable def siE : TypeInfo := (Try.prog.info? 67).get (by kernel_rfl)
theorem siK (n : Nat) : Lib.swapperK n siE 11 = if n = 0 then 1 else if n = 1 then 2 else 5 := by
  have a : siE.hasPointers = false := by kernel_rfl
  have b : siE.bytes = 8 := by kernel_rfl
  by_cases h0 : n = 0
  · subst h0; simp [Lib.swapperK]
  by_cases h1 : n = 1
  · subst h1; simp [Lib.swapperK]
  have c : (n == 0) = false := by simpa using h0
  have d : (n == 1) = false := by simpa using h1
  simp [Lib.swapperK, a, b, c, d, h0, h1]
set_option maxHeartbeats 2000000 in
theorem lessCodes (blk off c Bs size : Nat) (W : World) (G : Nat → Int) (hs : W.cell? ⟨Bs, 0, none⟩ = some (.slice (some ⟨blk, off, none⟩) size c))
    (hc : ∀ t, t < size → W.cell? ⟨blk, off + t, none⟩ = some (.int .u64 (G t))) (i j : Nat) (hi : i < size) (hj : j < size) (_hsz : size < 4611686018427387904) :
    Calls Try.prog 65 #[.int .i64 i, .int .i64 j, .pointer (some ⟨Bs, 0, none⟩)] W fun e w' => e = .returned (.bool (decide (G i < G j))) ∧ ∃ q, w' = W.drewN q := by
  have ci := hc i hi
  have cj := hc j hj
  go_enter Try.func65, Try.ntmps65
  go_wp2
  go_quiet (fail)
  go_wp2
  go_ret
  exact ⟨rfl, nq, rfl⟩
theorem sortsCodes : AM.SortsIn Try.prog 64 92 65 67 1 (fun z : Int => [.int .u64 z]) (fun zs ys => ys = AM.sorted' zs) := by
  refine ⟨?_, fun Bs w => ?_⟩
  rotate_left
  · have hS := Any.sort_Slice_tiny sl6 92 67 siT siE (by kernel_rfl) (by kernel_rfl) (by kernel_rfl) (by kernel_rfl) 11 (fun _ => by kernel_rfl) .none 0 0 (by decide) 106 (by rw [siK]; kernel_rfl) (.func 65) #[] #[.pointer (some ⟨Bs, 0, .none⟩)] w
    refine Calls.mono (show Calls Try.prog 64 _ _ _ from hS) fun e w' he => ?_
    obtain ⟨rfl, os, rfl⟩ := he
    exact ⟨rfl, by simp [AM.sorted'], AM.below_grow⟩
  · intro Bs blk cap zs w hsz hc hne hrow
    rcases hrow.2 with ⟨h, _⟩ | ⟨g', cap', cur, hv, _, hb, h1, h2, h3, h4⟩
    · cases h
    cases hv
    have hfm : ∀ ys : List Int, ys.flatMap (fun z => [Value.int .u64 z]) = ys.map (Value.int .u64) := fun ys => by induction ys <;> simp_all
    rw [hfm, Nat.mul_one] at h4
    simp only [hfm]
    by_cases h0 : zs.length ≤ 1
    · have hS := Any.sort_Slice_tiny sl6 92 67 siT siE (by kernel_rfl) (by kernel_rfl) (by kernel_rfl) (by kernel_rfl) 11 (fun _ => by kernel_rfl) (some ⟨blk, 0, .none⟩) zs.length cap h0 (if zs.length = 0 then 106 else 107)
        (by
          rw [siK]
          rcases (show zs.length = 0 ∨ zs.length = 1 by omega) with h | h <;> rw [h] <;> kernel_rfl) (.func 65) #[] #[.pointer (some ⟨Bs, 0, .none⟩)] w
      refine Calls.mono (show Calls Try.prog 64 _ _ _ from hS) fun e w' he => ?_
      obtain ⟨rfl, os, rfl⟩ := he
      exact ⟨rfl, zs, (AM.sorted'_short h0).symm, rfl, AM.rowTurned_still hb h1 h2 h3 h4⟩
    · have hH := AM.holds_of_row (enc := Value.int .u64) (ss := zs) hb h4
      have hblk : blk < w.heap.size := (Array.getElem?_eq_some_iff.1 hb).1
      have hBs : Bs < w.heap.size := World.block_lt_of_cell? w ⟨Bs, 0, .none⟩ hc
      have hless : LessReads Try.prog 65 #[.pointer (some ⟨Bs, 0, .none⟩)] (Value.int .u64) ltInt blk 0 zs.toArray.size w := by
        intro m os dk hs i j hi hj
        have hHg : Holds (Value.int .u64) (grow (Sort.ahead w m) os) blk 0 zs.toArray := holds_grow _ _ _ blk 0 _ hblk (holds_ahead _ _ _ _ _ _ hH)
        have e : sortWorld (Value.int .u64) w blk 0 m dk os = putRow (Value.int .u64) (grow (Sort.ahead w m) os) blk 0 dk := by
          unfold sortWorld; rw [putRow_grow _ (Sort.ahead w m) _ blk 0 _ hblk]
        refine lessCodes blk 0 cap Bs zs.toArray.size _ (fun t => dk[t]!) ?_ (fun t ht => ?_) i j hi hj (by simpa using hsz)
        · rw [e, cell?_putRow_other _ _ blk 0 dk _ (Or.inl hne), cell?_grow _ _ _ (show Bs < (Sort.ahead w m).heap.size from hBs)]
          simpa using hc
        · rw [e]; exact cell?_putRow _ _ blk 0 zs.toArray dk hHg hs t (by omega)
      have hS := Any.sort_Slice_sorted sl6 92 67 siT siE (by kernel_rfl) (by kernel_rfl) (by kernel_rfl) (by kernel_rfl) 11 (fun _ => by kernel_rfl) (by kernel_rfl) (fun _ => by kernel_rfl) (Value.int .u64) (fun _ => rfl) ltInt swo_ltInt 65 _
        (enters_of Try.func65 (by kernel_rfl) rfl) blk 0 cap zs.toArray (by simp; omega) (by simpa using hsz) 110 (by
          rw [siK, if_neg (by rw [List.size_toArray]; omega), if_neg (by rw [List.size_toArray]; omega)]; kernel_rfl) true
        (fun args W => run_callFunc_extern Try.func110 (by kernel_rfl) (by kernel_rfl) (by kernel_rfl) (e := Extern.ReflectliteSwapper.swap true) (by kernel_rfl) args W) w hless hH hblk
      refine Calls.mono (show Calls Try.prog 64 _ _ _ from hS) fun e w' he => ?_
      obtain ⟨rfl, d', n, os, hp, hso, rfl⟩ := he
      have hd := AM.sorted_of_perm hp hso
      have hl : (AM.sorted' zs).length = zs.length := by simp [AM.sorted']
      refine ⟨rfl, AM.sorted' zs, rfl, hl, ?_⟩
      have ed : d' = (AM.sorted' zs).toArray := by rw [← hd]
      rw [ed]
      exact AM.rowTurned hl hb h1 h2 h3
end Go.Proofs.Ytoooldijnilpaaa
