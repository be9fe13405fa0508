/- All the members of a roster. -/
import Derived.Test.YthognfmmjkmjnaaSe
import Derived.Test.YthognfmmjkmjnaaAt
import Derived.Test.YthognfmmjkmjnaaSh
namespace Go.Proofs.Ythognfmmjkmjnaa
set_option linter.all false
open Go.RowKit AM
set_option maxRecDepth 10000

theorem sorts : SortsInts Try.prog 53 := ⟨sortInts, sortNone⟩
theorem sortEnters : AM.Enters Try.prog 53 := ⟨Try.f53, by kernel_rfl, by kernel_rfl, by kernel_rfl⟩
def rowI : List Int → SV
  | [] => .v .nil
  | k :: ks => .own true 3 (ks.length + 1) 1 (ints (k :: ks))
def rowM : List Me → SV
  | [] => .v .nil
  | x :: xs => .own true 26 (xs.length + 1) 6 ((x :: xs).flatMap Me.cs)
theorem rowI_one (u : Int) : SV.own true 3 1 1 [.sc (.int .i64 u)] = rowI [u] := rfl
theorem rowI_more (k u : Int) (ks : List Int) : SV.own true 3 (ks.length + 1 + 1) 1 (.sc (.int .i64 k) :: (ints ks ++ [.sc (.int .i64 u)])) = rowI (k :: ks ++ [u]) := by simp [rowI, ints]
def allR (l : List Me) : List Me := (sorted (l.map (·.user))).map fun k => (findR l k).1
def I1 (H : List Bk) (r m b : Nat) (l : List Me) (n : Nat) (F : Fr) (H1 : List Bk) : Prop :=
  ∃ (left : List Me) (ks : List Int) (cu : Option (Value × V)), n = left.length ∧ (ks ++ left.map (·.user)).Perm (l.map (·.user)) ∧ Old H H1 ∧ H1[b]? = some (.iter m (left.map Me.ent) cu) ∧ F = [(0, .v (.ptr r 0)), (15, .v (.ptr b 0)), (3, rowI ks)]
def outR (l : List Me) (q : List Int) (k : Nat) : List Me := (q.take k).map fun u => (findR l u).1
def I2 (H1 : List Bk) (r : Nat) (l : List Me) (q : List Int) (n : Nat) (F : Fr) (H : List Bk) : Prop :=
  ∃ k : Nat, n = q.length - k ∧ k ≤ q.length ∧ H = H1 ∧ F = [(0, .v (.ptr r 0)), (3, .own true 3 q.length 1 (ints q)), (26, .lnk (.slot 3) q.length), (27, .v (.sc (.int .i64 q.length))), (28, .v (.sc (.int .i64 k))), (5, rowM (outR l q k))]
theorem row_ints {q : List Int} {k : Nat} (h : k < q.length) : AM.rowAt 1 (ints q) (k : Int) = [.sc (.int .i64 q[k])] := by
  unfold AM.rowAt
  rw [Int.toNat_natCast, Nat.mul_one]
  unfold ints
  rw [← List.map_drop, ← List.map_take, List.drop_eq_getElem_cons h]
  rfl
theorem erase_perm {α : Type} {x : α} : ∀ {l : List α} {i : Nat}, l[i]? = some x → (x :: l.eraseIdx i).Perm l
  | y :: l, 0, h => by
    simp at h
    subst h
    simp
  | y :: l, i + 1, h => by
    have := erase_perm (l := l) (i := i) (by simpa using h)
    simp only [List.eraseIdx_cons_succ]
    exact (List.Perm.swap y x _).trans (this.cons y)
theorem sorted_rises (a : List Int) : (sorted a).Pairwise fun x y => x ≤ y := by
  have := List.pairwise_mergeSort (le := fun x y : Int => decide (x ≤ y)) (fun a b c h1 h2 => by simp at *; omega) (fun a b => by simp; omega) a
  simpa [sorted] using this
theorem sorted_perm {a b : List Int} (h : a.Perm b) : sorted a = sorted b := by
  have ha := List.mergeSort_perm a fun x y => decide (x ≤ y)
  have hb := List.mergeSort_perm b fun x y => decide (x ≤ y)
  refine List.Perm.eq_of_pairwise (le := fun x y : Int => x ≤ y) (fun x y _ _ h1 h2 => Int.le_antisymm h1 h2) ?_ ?_ ((ha.trans h).trans hb.symm)
  · exact sorted_rises a
  · exact sorted_rises b
theorem all {H : List Bk} {r m : Nat} {l : List Me} (h : Ros H r m l) (hl : l ≠ []) (hs : l.length ≤ 1000) : AFn Try.prog 39 [.ptr r 0] H fun y H' => y = .sl l.length 6 ((allR l).flatMap Me.cs) ∧ Old H H' := by
  have hr := h.r
  have hm := h.m
  refine AFn.intro (fn := Try.f39) (by kernel_rfl) rfl (by kernel_rfl) (by simp) ?_
  simp only [Try.f39, argsF]
  refine AW.seq (AW.of mixed (by kernel_rfl) ?_)
  simp [aw_skip', aw_region', aw_seq', aw_cond', aw_block', aw_loop', aw_exit', aw_label', aw_ret', aops_nil', aops_cons', aop', aMove, aAssign, aPick, aAlloc, aBox, aBuild, aBuildSlice, aLoad, aLoadOwn, aStore, aNilCheck, aBin, aMakeFunc, aFieldAddr, aField, aIndexAddr, aExtract, aSliceOp, aSlice, aCallOp, aCall', aLen, aLenMap, aDelete, aMM, aUn, aConv, aIface, aAssert, aMakeMap, aLookup, aMapUpdate, aRange, aNext, aEntry, entsOf, keyB, lookV, aAppend, putK, layK, eval, evalV, AM.valOf, getF, putF, setF, del, SV.refers, cellsAt, rootSV, plains, shift, ldV, V.exact, V.exactL, V.ofValue, V.ofPart, V.ofCell, V.cells, V.one, Value.oneCell', fitB, qSeq, qBlock, getB, afin, aret, resVs, resV, resTmps, shareF, evalS, tupV, valsS, valsV, pickV, calm, calmB, lenV, useOf, feeds, looks, isT, newsV, partsV, fillV, putAt, zerosV, fitsNil, nilB, isEq, isNeq]
  refine AW.seq (AW.of mixed (by kernel_rfl) ?_)
  simp [aw_skip', aw_region', aw_seq', aw_cond', aw_block', aw_loop', aw_exit', aw_label', aw_ret', aops_nil', aops_cons', aop', aMove, aAssign, aPick, aAlloc, aBox, aBuild, aBuildSlice, aLoad, aLoadOwn, aStore, aNilCheck, aBin, aMakeFunc, aFieldAddr, aField, aIndexAddr, aExtract, aSliceOp, aSlice, aCallOp, aCall', aLen, aLenMap, aDelete, aMM, aUn, aConv, aIface, aAssert, aMakeMap, aLookup, aMapUpdate, aRange, aNext, aEntry, entsOf, keyB, lookV, aAppend, putK, layK, eval, evalV, AM.valOf, getF, putF, setF, del, SV.refers, cellsAt, rootSV, plains, shift, ldV, V.exact, V.exactL, V.ofValue, V.ofPart, V.ofCell, V.cells, V.one, Value.oneCell', fitB, qSeq, qBlock, getB, afin, aret, resVs, resV, resTmps, shareF, evalS, tupV, valsS, valsV, pickV, calm, calmB, lenV, useOf, feeds, looks, isT, newsV, partsV, fillV, putAt, zerosV, fitsNil, nilB, isEq, isNeq]
  refine callK.of (made H r m hr) ?_
  rintro y H' ⟨rfl, rfl⟩
  simp [aw_skip', aw_region', aw_seq', aw_cond', aw_block', aw_loop', aw_exit', aw_label', aw_ret', aops_nil', aops_cons', aop', aMove, aAssign, aPick, aAlloc, aBox, aBuild, aBuildSlice, aLoad, aLoadOwn, aStore, aNilCheck, aBin, aMakeFunc, aFieldAddr, aField, aIndexAddr, aExtract, aSliceOp, aSlice, aCallOp, aCall', aLen, aLenMap, aDelete, aMM, aUn, aConv, aIface, aAssert, aMakeMap, aLookup, aMapUpdate, aRange, aNext, aEntry, entsOf, keyB, lookV, aAppend, putK, layK, eval, evalV, AM.valOf, getF, putF, setF, del, SV.refers, cellsAt, rootSV, plains, shift, ldV, V.exact, V.exactL, V.ofValue, V.ofPart, V.ofCell, V.cells, V.one, Value.oneCell', fitB, qSeq, qBlock, getB, afin, aret, resVs, resV, resTmps, shareF, evalS, tupV, valsS, valsV, pickV, calm, calmB, lenV, useOf, feeds, looks, isT, newsV, partsV, fillV, putAt, zerosV, fitsNil, nilB, isEq, isNeq]
  refine AW.seq (AW.of mixed (by kernel_rfl) ?_)
  simp [aw_skip', aw_region', aw_seq', aw_cond', aw_block', aw_loop', aw_exit', aw_label', aw_ret', aops_nil', aops_cons', aop', aMove, aAssign, aPick, aAlloc, aBox, aBuild, aBuildSlice, aLoad, aLoadOwn, aStore, aNilCheck, aBin, aMakeFunc, aFieldAddr, aField, aIndexAddr, aExtract, aSliceOp, aSlice, aCallOp, aCall', aLen, aLenMap, aDelete, aMM, aUn, aConv, aIface, aAssert, aMakeMap, aLookup, aMapUpdate, aRange, aNext, aEntry, entsOf, keyB, lookV, aAppend, putK, layK, eval, evalV, AM.valOf, getF, putF, setF, del, SV.refers, cellsAt, rootSV, plains, shift, ldV, V.exact, V.exactL, V.ofValue, V.ofPart, V.ofCell, V.cells, V.one, Value.oneCell', fitB, qSeq, qBlock, getB, afin, aret, resVs, resV, resTmps, shareF, evalS, tupV, valsS, valsV, pickV, calm, calmB, lenV, useOf, feeds, looks, isT, newsV, partsV, fillV, putAt, zerosV, fitsNil, nilB, isEq, isNeq]
  refine AW.seq (AW.of mixed (by kernel_rfl) ?_)
  simp [aw_skip', aw_region', aw_seq', aw_cond', aw_block', aw_loop', aw_exit', aw_label', aw_ret', aops_nil', aops_cons', aop', aMove, aAssign, aPick, aAlloc, aBox, aBuild, aBuildSlice, aLoad, aLoadOwn, aStore, aNilCheck, aBin, aMakeFunc, aFieldAddr, aField, aIndexAddr, aExtract, aSliceOp, aSlice, aCallOp, aCall', aLen, aLenMap, aDelete, aMM, aUn, aConv, aIface, aAssert, aMakeMap, aLookup, aMapUpdate, aRange, aNext, aEntry, entsOf, keyB, lookV, aAppend, putK, layK, eval, evalV, AM.valOf, getF, putF, setF, del, SV.refers, cellsAt, rootSV, plains, shift, ldV, V.exact, V.exactL, V.ofValue, V.ofPart, V.ofCell, V.cells, V.one, Value.oneCell', fitB, qSeq, qBlock, getB, afin, aret, resVs, resV, resTmps, shareF, evalS, tupV, valsS, valsV, pickV, calm, calmB, lenV, useOf, feeds, looks, isT, newsV, partsV, fillV, putAt, zerosV, fitsNil, nilB, isEq, isNeq, hr, hm]
  refine AW.loop (I1 H' r m H'.length l) ⟨_, _, ?_, l, [], none, rfl, by simp, Old.app, app_len, rfl⟩ ?_
  · simp [subF, getF, rowI]
  rintro n F H1 ⟨left, ks, cu, rfl, hp, ho, hi, rfl⟩
  have hi' := fun k => set_self (k := k) hi
  have hnext : ∀ {i : Nat} {x : Me}, left[i]? = some x → (left.eraseIdx i).length < left.length ∧ (ks ++ [x.user] ++ (left.eraseIdx i).map (·.user)).Perm (l.map (·.user)) ∧ ks.length < l.length := fun {i x} hx => by
    obtain ⟨hlt, e⟩ := List.getElem?_eq_some_iff.1 hx
    have hlen := hp.length_eq
    simp at hlen
    refine ⟨by rw [List.length_eraseIdx, if_pos hlt]; omega, ?_, by omega⟩
    refine List.Perm.trans ?_ hp
    rw [List.append_assoc]
    refine List.Perm.append_left ks ?_
    simpa using (erase_perm hx).map (·.user)
  have hold : ∀ k, Old H' (H1.set H'.length k) := fun k => ho.set (Nat.le_refl _)
  refine AW.of mixed (by kernel_rfl) ?_
  rcases ks with _ | ⟨k0, ks'⟩
  · simp only [rowI]
    simp [aw_skip', aw_region', aw_seq', aw_cond', aw_block', aw_loop', aw_exit', aw_label', aw_ret', aops_nil', aops_cons', aop', aMove, aAssign, aPick, aAlloc, aBox, aBuild, aBuildSlice, aLoad, aLoadOwn, aStore, aNilCheck, aBin, aMakeFunc, aFieldAddr, aField, aIndexAddr, aExtract, aSliceOp, aSlice, aCallOp, aCall', aLen, aLenMap, aDelete, aMM, aUn, aConv, aIface, aAssert, aMakeMap, aLookup, aMapUpdate, aRange, aNext, aEntry, entsOf, keyB, lookV, aAppend, putK, layK, eval, evalV, AM.valOf, getF, putF, setF, del, SV.refers, cellsAt, rootSV, plains, shift, ldV, V.exact, V.exactL, V.ofValue, V.ofPart, V.ofCell, V.cells, V.one, Value.oneCell', fitB, qSeq, qBlock, getB, afin, aret, resVs, resV, resTmps, shareF, evalS, tupV, valsS, valsV, pickV, calm, calmB, lenV, useOf, feeds, looks, isT, newsV, partsV, fillV, putAt, zerosV, fitsNil, nilB, isEq, isNeq, hi, hi']
    refine ⟨fun e => ?_, fun i k v x hx e1 => ?_⟩
    · subst e
      have := hp.length_eq
      simp at this
      exact absurd (List.length_eq_zero_iff.1 this.symm) hl
    · obtain ⟨n1, n2, n3⟩ := hnext hx
      simp only [Me.ent, Prod.mk.injEq] at e1
      obtain ⟨rfl, rfl⟩ := e1
      simp [aw_skip', aw_region', aw_seq', aw_cond', aw_block', aw_loop', aw_exit', aw_label', aw_ret', aops_nil', aops_cons', aop', aMove, aAssign, aPick, aAlloc, aBox, aBuild, aBuildSlice, aLoad, aLoadOwn, aStore, aNilCheck, aBin, aMakeFunc, aFieldAddr, aField, aIndexAddr, aExtract, aSliceOp, aSlice, aCallOp, aCall', aLen, aLenMap, aDelete, aMM, aUn, aConv, aIface, aAssert, aMakeMap, aLookup, aMapUpdate, aRange, aNext, aEntry, entsOf, keyB, lookV, aAppend, putK, layK, eval, evalV, AM.valOf, getF, putF, setF, del, SV.refers, cellsAt, rootSV, plains, shift, ldV, V.exact, V.exactL, V.ofValue, V.ofPart, V.ofCell, V.cells, V.one, Value.oneCell', fitB, qSeq, qBlock, getB, afin, aret, resVs, resV, resTmps, shareF, evalS, tupV, valsS, valsV, pickV, calm, calmB, lenV, useOf, feeds, looks, isT, newsV, partsV, fillV, putAt, zerosV, fitsNil, nilB, isEq, isNeq, hi, hi']
      refine ⟨_, n1, _, ?_, left.eraseIdx i, [x.user], some (_, _), rfl, by simpa using n2, hold _, by rw [map_erase]; exact hi' _, rfl⟩
      simp [subF, getF, rowI, ints]
  · simp only [rowI]
    simp [aw_skip', aw_region', aw_seq', aw_cond', aw_block', aw_loop', aw_exit', aw_label', aw_ret', aops_nil', aops_cons', aop', aMove, aAssign, aPick, aAlloc, aBox, aBuild, aBuildSlice, aLoad, aLoadOwn, aStore, aNilCheck, aBin, aMakeFunc, aFieldAddr, aField, aIndexAddr, aExtract, aSliceOp, aSlice, aCallOp, aCall', aLen, aLenMap, aDelete, aMM, aUn, aConv, aIface, aAssert, aMakeMap, aLookup, aMapUpdate, aRange, aNext, aEntry, entsOf, keyB, lookV, aAppend, putK, layK, eval, evalV, AM.valOf, getF, putF, setF, del, SV.refers, cellsAt, rootSV, plains, shift, ldV, V.exact, V.exactL, V.ofValue, V.ofPart, V.ofCell, V.cells, V.one, Value.oneCell', fitB, qSeq, qBlock, getB, afin, aret, resVs, resV, resTmps, shareF, evalS, tupV, valsS, valsV, pickV, calm, calmB, lenV, useOf, feeds, looks, isT, newsV, partsV, fillV, putAt, zerosV, fitsNil, nilB, isEq, isNeq, hi, hi']
    refine ⟨fun e => ?_, fun i k v x hx e1 => ?_⟩
    · subst e
      have hp : (k0 :: ks').Perm (l.map (·.user)) := by simpa using hp
      have hlen : (k0 :: ks').length = l.length := by simpa using hp.length_eq
      have hso : sorted (k0 :: ks') = sorted (l.map (·.user)) := sorted_perm hp
      refine AW.seq (AW.sortInts sorts sortEnters rfl rfl rfl rfl rfl rfl rfl (by decide) (by decide) (by decide) (by decide) (zs := k0 :: ks') rfl rfl (by rw [hlen]; omega) ?_)
      simp [aw_skip', aw_region', aw_seq', aw_cond', aw_block', aw_loop', aw_exit', aw_label', aw_ret', aops_nil', aops_cons', aop', aMove, aAssign, aPick, aAlloc, aBox, aBuild, aBuildSlice, aLoad, aLoadOwn, aStore, aNilCheck, aBin, aMakeFunc, aFieldAddr, aField, aIndexAddr, aExtract, aSliceOp, aSlice, aCallOp, aCall', aLen, aLenMap, aDelete, aMM, aUn, aConv, aIface, aAssert, aMakeMap, aLookup, aMapUpdate, aRange, aNext, aEntry, entsOf, keyB, lookV, aAppend, putK, layK, eval, evalV, AM.valOf, getF, putF, setF, del, SV.refers, cellsAt, rootSV, plains, shift, ldV, V.exact, V.exactL, V.ofValue, V.ofPart, V.ofCell, V.cells, V.one, Value.oneCell', fitB, qSeq, qBlock, getB, afin, aret, resVs, resV, resTmps, shareF, evalS, tupV, valsS, valsV, pickV, calm, calmB, lenV, useOf, feeds, looks, isT, newsV, partsV, fillV, putAt, zerosV, fitsNil, nilB, isEq, isNeq]
      have hn : ks'.length + 1 = l.length := by simpa using hlen
      have hql : (sorted (l.map (·.user))).length = l.length := by simp [sorted]
      rw [hso, hn, ← hql]
      have hr1 := ho _ _ hr (fun _ _ _ => by simp)
      have hm1 := ho _ _ hm (fun _ _ _ => by simp)
      unfold allR
      generalize sorted (l.map (·.user)) = q at *
      refine AW.of mixed (by kernel_rfl) ?_
      simp [aw_skip', aw_region', aw_seq', aw_cond', aw_block', aw_loop', aw_exit', aw_label', aw_ret', aops_nil', aops_cons', aop', aMove, aAssign, aPick, aAlloc, aBox, aBuild, aBuildSlice, aLoad, aLoadOwn, aStore, aNilCheck, aBin, aMakeFunc, aFieldAddr, aField, aIndexAddr, aExtract, aSliceOp, aSlice, aCallOp, aCall', aLen, aLenMap, aDelete, aMM, aUn, aConv, aIface, aAssert, aMakeMap, aLookup, aMapUpdate, aRange, aNext, aEntry, entsOf, keyB, lookV, aAppend, putK, layK, eval, evalV, AM.valOf, getF, putF, setF, del, SV.refers, cellsAt, rootSV, plains, shift, ldV, V.exact, V.exactL, V.ofValue, V.ofPart, V.ofCell, V.cells, V.one, Value.oneCell', fitB, qSeq, qBlock, getB, afin, aret, resVs, resV, resTmps, shareF, evalS, tupV, valsS, valsV, pickV, calm, calmB, lenV, useOf, feeds, looks, isT, newsV, partsV, fillV, putAt, zerosV, fitsNil, nilB, isEq, isNeq]
      refine AW.loop (I2 H1 r l q) ⟨_, _, ?_, 0, rfl, Nat.zero_le _, rfl, rfl⟩ ?_
      · simp [subF, getF, rowM, outR]
      rintro n F H2 ⟨k, rfl, hk, rfl, rfl⟩
      refine AW.of mixed (by kernel_rfl) ?_
      by_cases hlt : k < q.length
      · have r1 : (ints q)[k]? = some (.sc (.int .i64 q[k])) := by simp [ints, hlt]
        have w1 : IntKind.i64.wrap ((k : Int) + 1) = (k : Int) + 1 := by rw [wrap_i64] <;> omega
        have hlk : ∀ {Y : Me → Prop}, (∀ i x, mfindMe q[k] l 0 = some (i, x) → Y x) → (mfindMe q[k] l 0 = none → Y Me.none) → Y (findR l q[k]).1 := fun h1 h2 => by
          unfold findR
          cases hf : mfindMe q[k] l 0 with
          | some p => exact h1 _ _ (by rw [hf])
          | none => exact h2 hf
        have hnx : outR l q (k + 1) = outR l q k ++ [(findR l q[k]).1] := by
          unfold outR
          rw [List.take_succ_eq_append_getElem hlt, List.map_append]
          rfl
        have hol : (outR l q k).length = k := by simp [outR]; omega
        generalize hx : (findR l q[k]).1 = x at hnx
        have hmf : mfind (.int .i64) (.int .i64 q[k]) (l.map Me.ent) 0 = some ((mfindMe q[k] l 0).map fun p => (p.1, p.2.v)) := mfind_me
        rcases hout : outR l q k with _ | ⟨x0, xs⟩
        · simp only [rowM]
          cases hf : mfindMe q[k] l 0 with
          | none =>
            have hx' : x = Me.none := by rw [← hx]; simp [findR, hf]
            simp [aw_skip', aw_region', aw_seq', aw_cond', aw_block', aw_loop', aw_exit', aw_label', aw_ret', aops_nil', aops_cons', aop', aMove, aAssign, aPick, aAlloc, aBox, aBuild, aBuildSlice, aLoad, aLoadOwn, aStore, aNilCheck, aBin, aMakeFunc, aFieldAddr, aField, aIndexAddr, aExtract, aSliceOp, aSlice, aCallOp, aCall', aLen, aLenMap, aDelete, aMM, aUn, aConv, aIface, aAssert, aMakeMap, aLookup, aMapUpdate, aRange, aNext, aEntry, entsOf, keyB, lookV, aAppend, putK, layK, eval, evalV, AM.valOf, getF, putF, setF, del, SV.refers, cellsAt, rootSV, plains, shift, ldV, V.exact, V.exactL, V.ofValue, V.ofPart, V.ofCell, V.cells, V.one, Value.oneCell', fitB, qSeq, qBlock, getB, afin, aret, resVs, resV, resTmps, shareF, evalS, tupV, valsS, valsV, pickV, calm, calmB, lenV, useOf, feeds, looks, isT, newsV, partsV, fillV, putAt, zerosV, fitsNil, nilB, isEq, isNeq, hlt, r1, hr1, hm1, hmf, hf, zvMe, Me.none, Me.v, Me.cs]
            refine ⟨_, ?_, _, ?_, k + 1, rfl, by omega, rfl, rfl⟩
            · omega
            · rw [hnx, hout, hx']
              simp [subF, getF, w1, rowM, Me.none, Me.cs]
          | some p =>
            have hx' : x = p.2 := by rw [← hx]; simp [findR, hf]
            simp [aw_skip', aw_region', aw_seq', aw_cond', aw_block', aw_loop', aw_exit', aw_label', aw_ret', aops_nil', aops_cons', aop', aMove, aAssign, aPick, aAlloc, aBox, aBuild, aBuildSlice, aLoad, aLoadOwn, aStore, aNilCheck, aBin, aMakeFunc, aFieldAddr, aField, aIndexAddr, aExtract, aSliceOp, aSlice, aCallOp, aCall', aLen, aLenMap, aDelete, aMM, aUn, aConv, aIface, aAssert, aMakeMap, aLookup, aMapUpdate, aRange, aNext, aEntry, entsOf, keyB, lookV, aAppend, putK, layK, eval, evalV, AM.valOf, getF, putF, setF, del, SV.refers, cellsAt, rootSV, plains, shift, ldV, V.exact, V.exactL, V.ofValue, V.ofPart, V.ofCell, V.cells, V.one, Value.oneCell', fitB, qSeq, qBlock, getB, afin, aret, resVs, resV, resTmps, shareF, evalS, tupV, valsS, valsV, pickV, calm, calmB, lenV, useOf, feeds, looks, isT, newsV, partsV, fillV, putAt, zerosV, fitsNil, nilB, isEq, isNeq, hlt, r1, hr1, hm1, hmf, hf, zvMe, Me.none, Me.v, Me.cs]
            refine ⟨_, ?_, _, ?_, k + 1, rfl, by omega, rfl, rfl⟩
            · omega
            · rw [hnx, hout, hx']
              simp [subF, getF, w1, rowM, Me.none, Me.cs]
        · simp only [rowM]
          have hxs : xs.length + 1 = k := by rw [← hol, hout]; rfl
          cases hf : mfindMe q[k] l 0 with
          | none =>
            have hx' : x = Me.none := by rw [← hx]; simp [findR, hf]
            simp [aw_skip', aw_region', aw_seq', aw_cond', aw_block', aw_loop', aw_exit', aw_label', aw_ret', aops_nil', aops_cons', aop', aMove, aAssign, aPick, aAlloc, aBox, aBuild, aBuildSlice, aLoad, aLoadOwn, aStore, aNilCheck, aBin, aMakeFunc, aFieldAddr, aField, aIndexAddr, aExtract, aSliceOp, aSlice, aCallOp, aCall', aLen, aLenMap, aDelete, aMM, aUn, aConv, aIface, aAssert, aMakeMap, aLookup, aMapUpdate, aRange, aNext, aEntry, entsOf, keyB, lookV, aAppend, putK, layK, eval, evalV, AM.valOf, getF, putF, setF, del, SV.refers, cellsAt, rootSV, plains, shift, ldV, V.exact, V.exactL, V.ofValue, V.ofPart, V.ofCell, V.cells, V.one, Value.oneCell', fitB, qSeq, qBlock, getB, afin, aret, resVs, resV, resTmps, shareF, evalS, tupV, valsS, valsV, pickV, calm, calmB, lenV, useOf, feeds, looks, isT, newsV, partsV, fillV, putAt, zerosV, fitsNil, nilB, isEq, isNeq, hlt, r1, hr1, hm1, hmf, hf, zvMe, Me.none, Me.v, Me.cs]
            refine ⟨by omega, _, ?_, _, ?_, k + 1, rfl, by omega, rfl, rfl⟩
            · omega
            · rw [hnx, hout, hx']
              simp [subF, getF, w1, rowM, Me.none, Me.cs]
          | some p =>
            have hx' : x = p.2 := by rw [← hx]; simp [findR, hf]
            simp [aw_skip', aw_region', aw_seq', aw_cond', aw_block', aw_loop', aw_exit', aw_label', aw_ret', aops_nil', aops_cons', aop', aMove, aAssign, aPick, aAlloc, aBox, aBuild, aBuildSlice, aLoad, aLoadOwn, aStore, aNilCheck, aBin, aMakeFunc, aFieldAddr, aField, aIndexAddr, aExtract, aSliceOp, aSlice, aCallOp, aCall', aLen, aLenMap, aDelete, aMM, aUn, aConv, aIface, aAssert, aMakeMap, aLookup, aMapUpdate, aRange, aNext, aEntry, entsOf, keyB, lookV, aAppend, putK, layK, eval, evalV, AM.valOf, getF, putF, setF, del, SV.refers, cellsAt, rootSV, plains, shift, ldV, V.exact, V.exactL, V.ofValue, V.ofPart, V.ofCell, V.cells, V.one, Value.oneCell', fitB, qSeq, qBlock, getB, afin, aret, resVs, resV, resTmps, shareF, evalS, tupV, valsS, valsV, pickV, calm, calmB, lenV, useOf, feeds, looks, isT, newsV, partsV, fillV, putAt, zerosV, fitsNil, nilB, isEq, isNeq, hlt, r1, hr1, hm1, hmf, hf, zvMe, Me.none, Me.v, Me.cs]
            refine ⟨by omega, _, ?_, _, ?_, k + 1, rfl, by omega, rfl, rfl⟩
            · omega
            · rw [hnx, hout, hx']
              simp [subF, getF, w1, rowM, Me.none, Me.cs]
      · have hkq : k = q.length := by omega
        have hout : outR l q k = q.map fun u => (findR l u).1 := by unfold outR; rw [hkq, List.take_length]
        have hlm : (q.map fun u => (findR l u).1).length = l.length := by simpa using hql
        simp only [hout]
        rcases hm : (q.map fun u => (findR l u).1) with _ | ⟨x0, xs⟩
        · rw [hm] at hlm
          simp at hlm
          exact absurd (List.length_eq_zero_iff.1 hlm.symm) hl
        · rw [hm] at hlm
          simp only [rowM]
          simp [aw_skip', aw_region', aw_seq', aw_cond', aw_block', aw_loop', aw_exit', aw_label', aw_ret', aops_nil', aops_cons', aop', aMove, aAssign, aPick, aAlloc, aBox, aBuild, aBuildSlice, aLoad, aLoadOwn, aStore, aNilCheck, aBin, aMakeFunc, aFieldAddr, aField, aIndexAddr, aExtract, aSliceOp, aSlice, aCallOp, aCall', aLen, aLenMap, aDelete, aMM, aUn, aConv, aIface, aAssert, aMakeMap, aLookup, aMapUpdate, aRange, aNext, aEntry, entsOf, keyB, lookV, aAppend, putK, layK, eval, evalV, AM.valOf, getF, putF, setF, del, SV.refers, cellsAt, rootSV, plains, shift, ldV, V.exact, V.exactL, V.ofValue, V.ofPart, V.ofCell, V.cells, V.one, Value.oneCell', fitB, qSeq, qBlock, getB, afin, aret, resVs, resV, resTmps, shareF, evalS, tupV, valsS, valsV, pickV, calm, calmB, lenV, useOf, feeds, looks, isT, newsV, partsV, fillV, putAt, zerosV, fitsNil, nilB, isEq, isNeq, hlt]
          exact ⟨by rw [hql]; simpa using hlm, ho⟩
    · obtain ⟨n1, n2, n3⟩ := hnext hx
      simp only [Me.ent, Prod.mk.injEq] at e1
      obtain ⟨rfl, rfl⟩ := e1
      have n4 : ks'.length + 1 < l.length := by simpa using n3
      simp [aw_skip', aw_region', aw_seq', aw_cond', aw_block', aw_loop', aw_exit', aw_label', aw_ret', aops_nil', aops_cons', aop', aMove, aAssign, aPick, aAlloc, aBox, aBuild, aBuildSlice, aLoad, aLoadOwn, aStore, aNilCheck, aBin, aMakeFunc, aFieldAddr, aField, aIndexAddr, aExtract, aSliceOp, aSlice, aCallOp, aCall', aLen, aLenMap, aDelete, aMM, aUn, aConv, aIface, aAssert, aMakeMap, aLookup, aMapUpdate, aRange, aNext, aEntry, entsOf, keyB, lookV, aAppend, putK, layK, eval, evalV, AM.valOf, getF, putF, setF, del, SV.refers, cellsAt, rootSV, plains, shift, ldV, V.exact, V.exactL, V.ofValue, V.ofPart, V.ofCell, V.cells, V.one, Value.oneCell', fitB, qSeq, qBlock, getB, afin, aret, resVs, resV, resTmps, shareF, evalS, tupV, valsS, valsV, pickV, calm, calmB, lenV, useOf, feeds, looks, isT, newsV, partsV, fillV, putAt, zerosV, fitsNil, nilB, isEq, isNeq, hi, hi']
      refine ⟨by omega, _, n1, _, ?_, left.eraseIdx i, k0 :: ks' ++ [x.user], some (_, _), rfl, by simpa using n2, hold _, by rw [map_erase]; exact hi' _, rfl⟩
      simp [subF, getF, rowI, ints]
end Go.Proofs.Ythognfmmjkmjnaa
