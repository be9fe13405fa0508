/- sort.Slice at records by their numbers: the shelf's contract at this program, and the closure. -/
import Derived.Test.YtmjnffjacgjfmaaHs
import Derived.Test.YtmjnffjacgjfmaaJa
namespace Go.Proofs.Ytmjnffjacgjfmaa
set_option linter.all false
open Go.Shelf Go.RowKit Go.Lib Go.Sort
set_option maxRecDepth 10000
noncomputable def prT : TypeInfo := (Try.prog.info? 22).get (by kernel_rfl)
noncomputable def prE : TypeInfo := (Try.prog.info? 32).get (by kernel_rfl)
theorem prK (n : Nat) : Lib.swapperK n prE 25 = if n = 0 then 1 else if n = 1 then 2 else 9 := by
  have a : prE.hasPointers = false := by kernel_rfl
  have b : prE.bytes = 32 := by kernel_rfl
  by_cases h0 : n = 0
  · subst h0; simp [Lib.swapperK]
  by_cases h1 : n = 1
  · subst h1; simp [Lib.swapperK]
  have c : (n == 0) = false := by simpa using h0
  have d : (n == 1) = false := by simpa using h1
  simp [Lib.swapperK, a, b, c, d, h0, h1]
set_option maxHeartbeats 2000000 in
theorem lessRecs (blk off c Bs size : Nat) (W : World) (G : Nat → Int) (hs : W.cell? ⟨Bs, 0, none⟩ = some (.slice (some ⟨blk, off, none⟩) size c))
    (hc : ∀ t, t < size → W.cell? ⟨blk, off + t * 4, none⟩ = some (.int .i64 (G t))) (i j : Nat) (hi : i < size) (hj : j < size) (_hsz : size < 4611686018427387904) :
    Calls Try.prog 74 #[.int .i64 i, .int .i64 j, .pointer (some ⟨Bs, 0, none⟩)] W fun e w' => e = .returned (.bool (decide (G i < G j))) ∧ ∃ q, w' = W.drewN q := by
  have ci := hc i hi
  have cj := hc j hj
  go_enter Try.func74, Try.ntmps74
  go_wp2
  go_quiet (fail)
  go_wp2
  go_ret
  exact ⟨rfl, nq, rfl⟩
def encP (s : Pr) : List Value := [.int .i64 s.id, .int .i64 s.at_.x, .int .i64 s.at_.y, .int .i64 s.lab]
def ltP (a b : Pr) : Bool := decide (a.id < b.id)
theorem swoP : SWO ltP where
  irrefl x := by simp [ltP]
  trans x y z h1 h2 := by simp [ltP] at *; omega
  ntrans x y z h1 h2 := by simp [ltP] at *; omega
def SortedP (zs ys : List Pr) : Prop := ys.Perm zs ∧ ys.Pairwise fun p q => p.id ≤ q.id
theorem shortP : ∀ {zs : List Pr}, zs.length ≤ 1 → zs.Pairwise fun p q => p.id ≤ q.id
  | [], _ => List.Pairwise.nil
  | [a], _ => List.pairwise_singleton _ _
  | _ :: _ :: _, h => by simp at h
set_option maxHeartbeats 2000000 in
theorem sortsRecs : AM.SortsIn Try.prog 73 22 74 32 4 encP SortedP := by
  refine ⟨?_, fun Bs w => ?_⟩
  rotate_left
  · have hS := Any.sort_Slice_tiny { sl6 with } 22 32 prT prE (by kernel_rfl) (by kernel_rfl) (by kernel_rfl) (by kernel_rfl) 25 (fun _ => by kernel_rfl) .none 0 0 (by decide) 105 (by rw [prK]; kernel_rfl) (.func 74) #[] #[.pointer (some ⟨Bs, 0, .none⟩)] w
    refine Calls.mono (show Calls Try.prog 73 _ _ _ from hS) fun e w' he => ?_
    obtain ⟨rfl, os, rfl⟩ := he
    exact ⟨rfl, ⟨List.Perm.refl _, List.Pairwise.nil⟩, AM.below_grow⟩
  · intro Bs blk cap zs w hsz hc hne hrow
    rcases hrow.2 with ⟨h, _⟩ | ⟨g', cap', cur, hv, _, hb, h1, h2, h3, h4⟩
    · cases h
    cases hv
    have hk : ∀ x : Pr, (encP x).length = 4 := fun _ => rfl
    have hfl : ∀ ys : List Pr, (flatK encP 4 ys.toArray).toList = ys.flatMap encP := fun ys => AM.hflatK_list hk (by decide) ys
    have hfs : ∀ ys : List Pr, (flatK encP 4 ys.toArray) = (ys.flatMap encP).toArray := fun ys => by rw [← hfl]
    have hfn : ∀ ys : List Pr, (ys.flatMap encP).length = ys.length * 4 := fun ys => by rw [← hfl]; simp
    have hblk : blk < w.heap.size := (Array.getElem?_eq_some_iff.1 hb).1
    by_cases h0 : zs.length ≤ 1
    · have hS := Any.sort_Slice_tiny { sl6 with } 22 32 prT prE (by kernel_rfl) (by kernel_rfl) (by kernel_rfl) (by kernel_rfl) 25 (fun _ => by kernel_rfl) (some ⟨blk, 0, .none⟩) zs.length cap h0 (if zs.length = 0 then 105 else 106)
        (by
          rw [prK]
          rcases (show zs.length = 0 ∨ zs.length = 1 by omega) with h | h <;> rw [h] <;> kernel_rfl) (.func 74) #[] #[.pointer (some ⟨Bs, 0, .none⟩)] w
      refine Calls.mono (show Calls Try.prog 73 _ _ _ from hS) fun e w' he => ?_
      obtain ⟨rfl, os, rfl⟩ := he
      refine ⟨rfl, zs, ⟨List.Perm.refl _, ?_⟩, rfl, ?_⟩
      · exact shortP h0
      · exact ⟨rfl, rfl, rfl, by simp, fun k hne hk => heap_grow_old _ _ hk, by rw [hfn], .inr ⟨blk, cap, cur, rfl, Nat.zero_le _, (heap_grow_old _ _ hblk).trans hb, h1, h2, h3, h4⟩⟩
    · have hBs : Bs < w.heap.size := World.block_lt_of_cell? w ⟨Bs, 0, .none⟩ hc
      have hH : HoldsK encP 4 w blk 0 zs.toArray := by
        unfold HoldsK
        rw [hfs]
        exact AM.holds_of_row (enc := id) (ss := zs.flatMap encP) hb (by rw [hfn, h4]; simp)
      have hless : LessReadsK Try.prog 74 #[.pointer (some ⟨Bs, 0, .none⟩)] encP 4 ltP blk 0 zs.toArray.size w := by
        intro m os dk hs i j hi hj
        have e : sortWorldK encP 4 w blk 0 m dk os = putRowK encP 4 (grow (Sort.ahead w m) os) blk 0 dk := by
          unfold sortWorldK; rw [putRowK_grow _ _ (Sort.ahead w m) _ blk 0 _ hblk]
        have hHg : HoldsK encP 4 (grow (Sort.ahead w m) os) blk 0 zs.toArray := holdsK_grow _ _ _ _ blk 0 _ hblk (holdsK_ahead _ _ _ _ _ _ _ hH)
        refine lessRecs blk 0 cap Bs zs.toArray.size _ (fun t => dk[t]!.id) ?_ (fun t ht => ?_) i j hi hj (by simpa using hsz)
        · rw [e, cell?_putRowK_other _ _ _ blk 0 dk _ (by exact hne), cell?_grow _ _ _ (by exact hBs)]
          simpa using hc
        · rw [e]
          have := ((holdsK_putRowK _ _ _ blk 0 zs.toArray dk hHg hs).cell (i := t) (c := 0) (by omega) (by omega)).1
          simpa [encP] using this
      have hS := Any.sort_Slice_cells_sorted sl6 22 32 prT prE (by kernel_rfl) (by kernel_rfl) (by kernel_rfl) (by kernel_rfl) 25 (fun _ => by kernel_rfl) encP 4 hk (by kernel_rfl) (fun _ => by kernel_rfl)
        (fun x v hv => by simp [encP] at hv; rcases hv with rfl | rfl | rfl | rfl <;> rfl) ltP swoP 74 _
        (enters_of Try.func74 (by kernel_rfl) rfl) blk 0 cap zs.toArray (by simp; omega) (by simpa using hsz) 113 (by
          rw [prK, if_neg (by rw [List.size_toArray]; omega), if_neg (by rw [List.size_toArray]; omega)]; kernel_rfl) false
        (fun args W => run_callFunc_extern Try.func113 (by kernel_rfl) (by kernel_rfl) (by kernel_rfl) (e := Extern.ReflectliteSwapper.swap false) (by kernel_rfl) args W) w hless hH hblk
      refine Calls.mono (show Calls Try.prog 73 _ _ _ from hS) fun e w' he => ?_
      obtain ⟨rfl, d', n, os, hp, hso, rfl⟩ := he
      obtain ⟨hp1, _, hp3⟩ := hp
      have e1 : d'.extract 0 zs.toArray.size = d' := by rw [← hp1]; simp
      have e2 : zs.toArray.extract 0 zs.toArray.size = zs.toArray := by simp
      rw [e1, e2] at hp3
      have hperm : d'.toList.Perm zs := hp3
      have hl : d'.toList.length = zs.length := hperm.length_eq
      refine ⟨rfl, d'.toList, ⟨hperm, ?_⟩, hl, ?_⟩
      · rw [List.pairwise_iff_getElem]
        intro i j hi hj hij
        have hj' : j < d'.size := by simpa using hj
        have hi' : i < d'.size := by omega
        have hjz : j < zs.toArray.size := by rw [← hp1]; exact hj'
        have := hso i j (Nat.zero_le _) hij hjz
        rw [getElem!_pos d' i hi', getElem!_pos d' j hj'] at this
        simp only [ltP, decide_eq_false_iff_not, Int.not_lt] at this
        simpa using this
      · unfold putRowK
        have e3 : flatK encP 4 d' = (d'.toList.flatMap encP).toArray := hfs d'.toList
        rw [e3]
        have hh := AM.heap_put (enc := id) (n := n) (os := os) (d'.toList.flatMap encP).toArray hb
        have ht := AM.take_put (enc := id) cur (d'.toList.flatMap encP) (by rw [hfn, hl, h3]; exact Nat.mul_le_mul_right 4 h1)
        rw [hfn] at ht
        refine ⟨rfl, rfl, rfl, by simp, fun k hne hk => ?_, by rw [hfn, hl], .inr ⟨blk, cap, _, rfl, Nat.zero_le _, hh, h1, h2, by simp [putCells, h3], by rw [← hl, ht]; simp⟩⟩
        rw [heap_grow_old _ _ (by simpa using hk)]
        simp [putRow, mapBlock, Sort.ahead, Array.getElem?_modify, Ne.symm hne]
end Go.Proofs.Ytmjnffjacgjfmaa
