/- The law RosterApart: its walk. -/
import Derived.Test.YthognfmmjkmjnaaSp
import Derived.Test.YthognfmmjkmjnaaSc
namespace Go.Proofs.Ythognfmmjkmjnaa
set_option linter.all false
open Go.RowKit AM
set_option maxRecDepth 10000

theorem Ros.keep {H H' : List Bk} {r m n : Nat} {l : List Me} (h : Ros H r m l) (hk : Kept n H H') (h1 : r ≠ n) (h2 : m ≠ n) : Ros H' r m l := ⟨hk _ _ h1 h.r (fun _ _ _ => by simp), hk _ _ h2 h.m (fun _ _ _ => by simp)⟩
theorem Ros.cross {H : List Bk} {r m r' m' : Nat} {l l' : List Me} (h : Ros H r m l) (h' : Ros H r' m' l') : r ≠ m' := by
  rintro rfl
  have := h.r.symm.trans h'.m
  simp at this
def apI (ds : List Deed) (who : Int) (r m r' m' : Nat) (n : Nat) (F : Fr) (H : List Bk) : Prop := ∃ (k : Nat) (l l' : List Me), n = ds.length - k ∧ k ≤ ds.length ∧ k ≤ 80 ∧ Ros H r m l ∧ Ros H r' m' l' ∧ atK who l = atK who l' ∧ F = [(0, .v (.sl ds.length 10 (ds.flatMap Deed.cs))), (1, .v (.sc (.int .i64 who))), (5, .v (.ptr r 0)), (6, .v (.ptr r' 0)), (7, .v (.sc (.int .i64 k)))]
theorem apartLaw (ds : List Deed) (who : Int) : PFn Try.prog 5 [.sl ds.length 10 (ds.flatMap Deed.cs), .sc (.int .i64 who)] (.sc (.bool true)) := by
  refine AFn.intro (fn := Try.f5) (by kernel_rfl) rfl (by kernel_rfl) (by simp) (AW.of mixed (by kernel_rfl) ?_)
  simp only [Try.f5, argsF]
  simp [aw_skip', aw_region', aw_seq', aw_cond', aw_block', aw_loop', aw_exit', aw_label', aw_ret', aops_nil', aops_cons', aop', aMove, aAssign, aPick, aAlloc, aBox, aBuild, aBuildSlice, aLoad, aLoadOwn, aStore, aNilCheck, aBin, aMakeFunc, aFieldAddr, aField, aIndexAddr, aExtract, aSliceOp, aSlice, aCallOp, aCall', aLen, aLenMap, aDelete, aMM, aUn, aConv, aIface, aAssert, aMakeMap, aLookup, aMapUpdate, aRange, aNext, aEntry, entsOf, keyB, lookV, aAppend, putK, layK, eval, evalV, AM.valOf, getF, putF, setF, del, SV.refers, cellsAt, rootSV, plains, shift, ldV, V.exact, V.exactL, V.ofValue, V.ofPart, V.ofCell, V.cells, V.one, Value.oneCell', fitB, qSeq, qBlock, getB, afin, aret, resVs, resV, resTmps, shareF, evalS, tupV, valsS, valsV, pickV, calm, calmB, lenV, useOf, feeds, looks, isT, newsV, partsV, fillV, putAt, zerosV, fitsNil, nilB, isEq, isNeq]
  refine callK.of (rnew []) ?_
  rintro y H1 ⟨r, m, rfl, h, hr, hm, hk⟩
  simp [aw_skip', aw_region', aw_seq', aw_cond', aw_block', aw_loop', aw_exit', aw_label', aw_ret', aops_nil', aops_cons', aop', aMove, aAssign, aPick, aAlloc, aBox, aBuild, aBuildSlice, aLoad, aLoadOwn, aStore, aNilCheck, aBin, aMakeFunc, aFieldAddr, aField, aIndexAddr, aExtract, aSliceOp, aSlice, aCallOp, aCall', aLen, aLenMap, aDelete, aMM, aUn, aConv, aIface, aAssert, aMakeMap, aLookup, aMapUpdate, aRange, aNext, aEntry, entsOf, keyB, lookV, aAppend, putK, layK, eval, evalV, AM.valOf, getF, putF, setF, del, SV.refers, cellsAt, rootSV, plains, shift, ldV, V.exact, V.exactL, V.ofValue, V.ofPart, V.ofCell, V.cells, V.one, Value.oneCell', fitB, qSeq, qBlock, getB, afin, aret, resVs, resV, resTmps, shareF, evalS, tupV, valsS, valsV, pickV, calm, calmB, lenV, useOf, feeds, looks, isT, newsV, partsV, fillV, putAt, zerosV, fitsNil, nilB, isEq, isNeq]
  refine callK.of (rnew H1) ?_
  rintro y H2 ⟨r', m', rfl, h', hr', hm', hk'⟩
  have hlt1 := (List.getElem?_eq_some_iff.1 h.m).1
  have hlt2 := (List.getElem?_eq_some_iff.1 h.r).1
  have hmm : m ≠ m' := by omega
  have h0 : Ros H2 r m [Me.chief] := h.keep hk' (by omega) hmm
  simp [aw_skip', aw_region', aw_seq', aw_cond', aw_block', aw_loop', aw_exit', aw_label', aw_ret', aops_nil', aops_cons', aop', aMove, aAssign, aPick, aAlloc, aBox, aBuild, aBuildSlice, aLoad, aLoadOwn, aStore, aNilCheck, aBin, aMakeFunc, aFieldAddr, aField, aIndexAddr, aExtract, aSliceOp, aSlice, aCallOp, aCall', aLen, aLenMap, aDelete, aMM, aUn, aConv, aIface, aAssert, aMakeMap, aLookup, aMapUpdate, aRange, aNext, aEntry, entsOf, keyB, lookV, aAppend, putK, layK, eval, evalV, AM.valOf, getF, putF, setF, del, SV.refers, cellsAt, rootSV, plains, shift, ldV, V.exact, V.exactL, V.ofValue, V.ofPart, V.ofCell, V.cells, V.one, Value.oneCell', fitB, qSeq, qBlock, getB, afin, aret, resVs, resV, resTmps, shareF, evalS, tupV, valsS, valsV, pickV, calm, calmB, lenV, useOf, feeds, looks, isT, newsV, partsV, fillV, putAt, zerosV, fitsNil, nilB, isEq, isNeq]
  refine AW.loop (apI ds who r m r' m') ⟨_, _, ?_, 0, _, _, rfl, Nat.zero_le _, by omega, h0, h', rfl, rfl⟩ ?_
  · simp [subF, getF]
  rintro n F H ⟨k, l, l', rfl, hk1, hk8, g, g', hat, rfl⟩
  refine AW.of mixed (by kernel_rfl) ?_
  by_cases hlt : k < ds.length ∧ k < 80
  · obtain ⟨hlt, h80⟩ := hlt
    have h80' : (k : Int) < 80 := by omega
    have r1 := row_flat (enc := Deed.cs) (sz := 10) (fun _ => rfl) hlt
    have w1 : IntKind.i64.wrap ((k : Int) + 1) = (k : Int) + 1 := by rw [wrap_i64] <;> omega
    simp [aw_skip', aw_region', aw_seq', aw_cond', aw_block', aw_loop', aw_exit', aw_label', aw_ret', aops_nil', aops_cons', aop', aMove, aAssign, aPick, aAlloc, aBox, aBuild, aBuildSlice, aLoad, aLoadOwn, aStore, aNilCheck, aBin, aMakeFunc, aFieldAddr, aField, aIndexAddr, aExtract, aSliceOp, aSlice, aCallOp, aCall', aLen, aLenMap, aDelete, aMM, aUn, aConv, aIface, aAssert, aMakeMap, aLookup, aMapUpdate, aRange, aNext, aEntry, entsOf, keyB, lookV, aAppend, putK, layK, eval, evalV, AM.valOf, getF, putF, setF, del, SV.refers, cellsAt, rootSV, plains, shift, ldV, V.exact, V.exactL, V.ofValue, V.ofPart, V.ofCell, V.cells, V.one, Value.oneCell', fitB, qSeq, qBlock, getB, afin, aret, resVs, resV, resTmps, shareF, evalS, tupV, valsS, valsV, pickV, calm, calmB, lenV, useOf, feeds, looks, isT, newsV, partsV, fillV, putAt, zerosV, fitsNil, nilB, isEq, isNeq, hlt, h80, h80', r1, Deed.cs, Me.cs]
    refine callK.of (does g ds[k]) ?_
    rintro y H3 ⟨rfl, g3, k3⟩
    simp [aw_skip', aw_region', aw_seq', aw_cond', aw_block', aw_loop', aw_exit', aw_label', aw_ret', aops_nil', aops_cons', aop', aMove, aAssign, aPick, aAlloc, aBox, aBuild, aBuildSlice, aLoad, aLoadOwn, aStore, aNilCheck, aBin, aMakeFunc, aFieldAddr, aField, aIndexAddr, aExtract, aSliceOp, aSlice, aCallOp, aCall', aLen, aLenMap, aDelete, aMM, aUn, aConv, aIface, aAssert, aMakeMap, aLookup, aMapUpdate, aRange, aNext, aEntry, entsOf, keyB, lookV, aAppend, putK, layK, eval, evalV, AM.valOf, getF, putF, setF, del, SV.refers, cellsAt, rootSV, plains, shift, ldV, V.exact, V.exactL, V.ofValue, V.ofPart, V.ofCell, V.cells, V.one, Value.oneCell', fitB, qSeq, qBlock, getB, afin, aret, resVs, resV, resTmps, shareF, evalS, tupV, valsS, valsV, pickV, calm, calmB, lenV, useOf, feeds, looks, isT, newsV, partsV, fillV, putAt, zerosV, fitsNil, nilB, isEq, isNeq, hlt, h80, h80', r1, Deed.cs, Me.cs]
    have g4 : Ros H3 r' m' l' := g'.keep k3 (g'.cross g) (Ne.symm hmm)
    refine gd.intro (fun e => ?_) (fun e => ?_)
    · have e : who ≠ ds[k].m.user := by intro e'; simp [e'] at e
      refine ⟨_, ?_, _, ?_, k + 1, _, _, rfl, by omega, by omega, g3, g4, by rw [does_other _ _ _ e]; exact hat, rfl⟩
      · omega
      · simp [subF, getF, w1]
    have e : ds[k].m.user = who := by simpa using e
    refine callK.of (does g4 ds[k]) ?_
    rintro y H4 ⟨rfl, g5, k4⟩
    have same := does_same l l' ds[k] (by rw [e]; exact hat)
    simp only [Prod.mk.injEq] at same
    obtain ⟨s1, s2⟩ := same
    rw [e] at s1
    rw [s2]
    simp [aw_skip', aw_region', aw_seq', aw_cond', aw_block', aw_loop', aw_exit', aw_label', aw_ret', aops_nil', aops_cons', aop', aMove, aAssign, aPick, aAlloc, aBox, aBuild, aBuildSlice, aLoad, aLoadOwn, aStore, aNilCheck, aBin, aMakeFunc, aFieldAddr, aField, aIndexAddr, aExtract, aSliceOp, aSlice, aCallOp, aCall', aLen, aLenMap, aDelete, aMM, aUn, aConv, aIface, aAssert, aMakeMap, aLookup, aMapUpdate, aRange, aNext, aEntry, entsOf, keyB, lookV, aAppend, putK, layK, eval, evalV, AM.valOf, getF, putF, setF, del, SV.refers, cellsAt, rootSV, plains, shift, ldV, V.exact, V.exactL, V.ofValue, V.ofPart, V.ofCell, V.cells, V.one, Value.oneCell', fitB, qSeq, qBlock, getB, afin, aret, resVs, resV, resTmps, shareF, evalS, tupV, valsS, valsV, pickV, calm, calmB, lenV, useOf, feeds, looks, isT, newsV, partsV, fillV, putAt, zerosV, fitsNil, nilB, isEq, isNeq]
    refine ⟨_, ?_, _, ?_, k + 1, _, _, rfl, by omega, by omega, g3.keep k4 (g3.cross g4) hmm, g5, s1, rfl⟩
    · omega
    · simp [subF, getF, w1]
  · have hf : findR l who = findR l' who := by rw [find_at, find_at, hat]
    have stop : ¬ k < ds.length ∨ (k < ds.length ∧ ¬ (k : Int) < 80 ∧ ¬ k < 80) := by omega
    rcases stop with hlt' | ⟨hlt', n80, n80'⟩
    all_goals
      simp [aw_skip', aw_region', aw_seq', aw_cond', aw_block', aw_loop', aw_exit', aw_label', aw_ret', aops_nil', aops_cons', aop', aMove, aAssign, aPick, aAlloc, aBox, aBuild, aBuildSlice, aLoad, aLoadOwn, aStore, aNilCheck, aBin, aMakeFunc, aFieldAddr, aField, aIndexAddr, aExtract, aSliceOp, aSlice, aCallOp, aCall', aLen, aLenMap, aDelete, aMM, aUn, aConv, aIface, aAssert, aMakeMap, aLookup, aMapUpdate, aRange, aNext, aEntry, entsOf, keyB, lookV, aAppend, putK, layK, eval, evalV, AM.valOf, getF, putF, setF, del, SV.refers, cellsAt, rootSV, plains, shift, ldV, V.exact, V.exactL, V.ofValue, V.ofPart, V.ofCell, V.cells, V.one, Value.oneCell', fitB, qSeq, qBlock, getB, afin, aret, resVs, resV, resTmps, shareF, evalS, tupV, valsS, valsV, pickV, calm, calmB, lenV, useOf, feeds, looks, isT, newsV, partsV, fillV, putAt, zerosV, fitsNil, nilB, isEq, isNeq, *]
      refine callK.of (find g who) ?_
      rintro y H3 ⟨rfl, o3⟩
      rw [hf]
      generalize hfx : findR l' who = fx at *
      obtain ⟨x, fb⟩ := fx
      simp [aw_skip', aw_region', aw_seq', aw_cond', aw_block', aw_loop', aw_exit', aw_label', aw_ret', aops_nil', aops_cons', aop', aMove, aAssign, aPick, aAlloc, aBox, aBuild, aBuildSlice, aLoad, aLoadOwn, aStore, aNilCheck, aBin, aMakeFunc, aFieldAddr, aField, aIndexAddr, aExtract, aSliceOp, aSlice, aCallOp, aCall', aLen, aLenMap, aDelete, aMM, aUn, aConv, aIface, aAssert, aMakeMap, aLookup, aMapUpdate, aRange, aNext, aEntry, entsOf, keyB, lookV, aAppend, putK, layK, eval, evalV, AM.valOf, getF, putF, setF, del, SV.refers, cellsAt, rootSV, plains, shift, ldV, V.exact, V.exactL, V.ofValue, V.ofPart, V.ofCell, V.cells, V.one, Value.oneCell', fitB, qSeq, qBlock, getB, afin, aret, resVs, resV, resTmps, shareF, evalS, tupV, valsS, valsV, pickV, calm, calmB, lenV, useOf, feeds, looks, isT, newsV, partsV, fillV, putAt, zerosV, fitsNil, nilB, isEq, isNeq, Me.v, Me.cs, setLast]
      have f2 := find ((o3.ros g').app (L := [.cells (x.cs.map .v)])) who
      rw [hfx] at f2
      refine callK.of f2 ?_
      rintro y H4 ⟨rfl, o4⟩
      have hb := o4 _ _ app_len (fun _ _ _ => by simp)
      simp only [Me.cs, List.map_cons, List.map_nil] at hb
      have hb' := fun L => get_app (L := L) hb
      simp [aw_skip', aw_region', aw_seq', aw_cond', aw_block', aw_loop', aw_exit', aw_label', aw_ret', aops_nil', aops_cons', aop', aMove, aAssign, aPick, aAlloc, aBox, aBuild, aBuildSlice, aLoad, aLoadOwn, aStore, aNilCheck, aBin, aMakeFunc, aFieldAddr, aField, aIndexAddr, aExtract, aSliceOp, aSlice, aCallOp, aCall', aLen, aLenMap, aDelete, aMM, aUn, aConv, aIface, aAssert, aMakeMap, aLookup, aMapUpdate, aRange, aNext, aEntry, entsOf, keyB, lookV, aAppend, putK, layK, eval, evalV, AM.valOf, getF, putF, setF, del, SV.refers, cellsAt, rootSV, plains, shift, ldV, V.exact, V.exactL, V.ofValue, V.ofPart, V.ofCell, V.cells, V.one, Value.oneCell', fitB, qSeq, qBlock, getB, afin, aret, resVs, resV, resTmps, shareF, evalS, tupV, valsS, valsV, pickV, calm, calmB, lenV, useOf, feeds, looks, isT, newsV, partsV, fillV, putAt, zerosV, fitsNil, nilB, isEq, isNeq, Me.v, Me.cs, setLast, hb', eqMe, gMe, boolIs]
      refine callK.pure knownP rfl rfl ?_
      simp [aw_skip', aw_region', aw_seq', aw_cond', aw_block', aw_loop', aw_exit', aw_label', aw_ret', aops_nil', aops_cons', aop', aMove, aAssign, aPick, aAlloc, aBox, aBuild, aBuildSlice, aLoad, aLoadOwn, aStore, aNilCheck, aBin, aMakeFunc, aFieldAddr, aField, aIndexAddr, aExtract, aSliceOp, aSlice, aCallOp, aCall', aLen, aLenMap, aDelete, aMM, aUn, aConv, aIface, aAssert, aMakeMap, aLookup, aMapUpdate, aRange, aNext, aEntry, entsOf, keyB, lookV, aAppend, putK, layK, eval, evalV, AM.valOf, getF, putF, setF, del, SV.refers, cellsAt, rootSV, plains, shift, ldV, V.exact, V.exactL, V.ofValue, V.ofPart, V.ofCell, V.cells, V.one, Value.oneCell', fitB, qSeq, qBlock, getB, afin, aret, resVs, resV, resTmps, shareF, evalS, tupV, valsS, valsV, pickV, calm, calmB, lenV, useOf, feeds, looks, isT, newsV, partsV, fillV, putAt, zerosV, fitsNil, nilB, isEq, isNeq]
end Go.Proofs.Ythognfmmjkmjnaa
