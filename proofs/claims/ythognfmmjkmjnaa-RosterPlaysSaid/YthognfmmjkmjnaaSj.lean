/- What the document wants of a deed; sameness of rows. -/
import Derived.Test.YthognfmmjkmjnaaSi
namespace Go.Proofs.Ythognfmmjkmjnaa
set_option linter.all false
open Go.RowKit AM
set_option maxRecDepth 10000

def wantsR (xs : List Me) (a : Deed) : List Me × Int :=
  if a.kind = 0 then (if a.m.right then (if (findR xs a.m.user).2 then (xs, 20) else (putR xs a.m, 0)) else (xs, 1))
  else if a.kind = 1 then (if a.m.user = 0 then (xs, 1) else if (findR xs a.m.user).2 then (wo xs a.m.user, 0) else (xs, 21))
  else if a.kind = 2 then (if (findR xs a.m.user).2 then (if a.m.user = 0 ∨ a.pk < 1 ∨ a.pk > 65535 then (xs, 1) else (putR xs { (findR xs a.m.user).1 with kk := a.pk, area := a.pa }, 0)) else (xs, 21))
  else if a.kind = 3 then (if (findR xs a.m.user).2 then (if a.m.user = 0 ∨ a.n < 0 ∨ a.n > 65535 then (xs, 1) else (putR xs { (findR xs a.m.user).1 with quota := a.n }, 0)) else (xs, 21))
  else spendF xs a.m.user
theorem wants (xs : List Me) (a : Deed) (hx : xs.length ≤ 1000) (hne : ∀ j, j ≠ 0 → wo xs j ≠ []) (hk : ∀ x, findR xs a.m.user = (x, true) → x.user = a.m.user) : PFn Try.prog 35 [sl xs, a.v] (.tup [sl (wantsR xs a).1, .sc (.int .i64 (wantsR xs a).2)]) := by
  have hC : V.closedL (xs.flatMap Me.cs) = true := closed_flat (enc := Me.cs) (fun _ => rfl) xs
  have hRR := refRight a.m
  have hS := refSpend xs a.m.user hx hne hk
  have hW := refWithout xs a.m.user hx
  refine AFn.intro (fn := Try.f35) (by kernel_rfl) rfl (by kernel_rfl) (by simp) (AW.of mixed (by kernel_rfl) ?_)
  unfold Deed.v Deed.cs
  unfold Me.v at hRR
  unfold Me.cs at hRR ⊢
  simp only [Try.f35, argsF]
  simp [aw_skip', aw_region', aw_seq', aw_cond', aw_block', aw_loop', aw_exit', aw_label', aw_ret', aops_nil', aops_cons', aop', aMove, aAssign, aPick, aAlloc, aBox, aBuild, aBuildSlice, aLoad, aLoadOwn, aStore, aNilCheck, aBin, aMakeFunc, aFieldAddr, aField, aIndexAddr, aExtract, aSliceOp, aSlice, aCallOp, aCall', aLen, aLenMap, aDelete, aMM, aUn, aConv, aIface, aAssert, aMakeMap, aLookup, aMapUpdate, aRange, aNext, aEntry, entsOf, keyB, lookV, aAppend, putK, layK, eval, evalV, AM.valOf, getF, putF, setF, del, SV.refers, cellsAt, rootSV, plains, shift, ldV, V.exact, V.exactL, V.ofValue, V.ofPart, V.ofCell, V.cells, V.one, Value.oneCell', fitB, qSeq, qBlock, getB, afin, aret, resVs, resV, resTmps, shareF, evalS, tupV, valsS, valsV, pickV, calm, calmB, lenV, useOf, feeds, looks, isT, newsV, partsV, fillV, putAt, zerosV, fitsNil, nilB, isEq, isNeq, sl]
  refine callK.pure (refFind xs a.m.user hx) (by simp [V.closedL, V.closed, sl, hC]) (by simp [V.closed, V.closedL, Me.v, Me.cs]) ?_
  unfold wantsR
  generalize hf : findR xs a.m.user = fx at *
  obtain ⟨x, b⟩ := fx
  simp [aw_skip', aw_region', aw_seq', aw_cond', aw_block', aw_loop', aw_exit', aw_label', aw_ret', aops_nil', aops_cons', aop', aMove, aAssign, aPick, aAlloc, aBox, aBuild, aBuildSlice, aLoad, aLoadOwn, aStore, aNilCheck, aBin, aMakeFunc, aFieldAddr, aField, aIndexAddr, aExtract, aSliceOp, aSlice, aCallOp, aCall', aLen, aLenMap, aDelete, aMM, aUn, aConv, aIface, aAssert, aMakeMap, aLookup, aMapUpdate, aRange, aNext, aEntry, entsOf, keyB, lookV, aAppend, putK, layK, eval, evalV, AM.valOf, getF, putF, setF, del, SV.refers, cellsAt, rootSV, plains, shift, ldV, V.exact, V.exactL, V.ofValue, V.ofPart, V.ofCell, V.cells, V.one, Value.oneCell', fitB, qSeq, qBlock, getB, afin, aret, resVs, resV, resTmps, shareF, evalS, tupV, valsS, valsV, pickV, calm, calmB, lenV, useOf, feeds, looks, isT, newsV, partsV, fillV, putAt, zerosV, fitsNil, nilB, isEq, isNeq, sl, Me.v, Me.cs, setCells, setBlk]
  refine gd.intro (fun e => ?_) (fun e => ?_)
  · have e : a.kind = 0 := by simpa using e
    refine callK.pure hRR (by simp [V.closedL, V.closed]) rfl ?_
    cases hr : a.m.right with
    | false => simp [aw_skip', aw_region', aw_seq', aw_cond', aw_block', aw_loop', aw_exit', aw_label', aw_ret', aops_nil', aops_cons', aop', aMove, aAssign, aPick, aAlloc, aBox, aBuild, aBuildSlice, aLoad, aLoadOwn, aStore, aNilCheck, aBin, aMakeFunc, aFieldAddr, aField, aIndexAddr, aExtract, aSliceOp, aSlice, aCallOp, aCall', aLen, aLenMap, aDelete, aMM, aUn, aConv, aIface, aAssert, aMakeMap, aLookup, aMapUpdate, aRange, aNext, aEntry, entsOf, keyB, lookV, aAppend, putK, layK, eval, evalV, AM.valOf, getF, putF, setF, del, SV.refers, cellsAt, rootSV, plains, shift, ldV, V.exact, V.exactL, V.ofValue, V.ofPart, V.ofCell, V.cells, V.one, Value.oneCell', fitB, qSeq, qBlock, getB, afin, aret, resVs, resV, resTmps, shareF, evalS, tupV, valsS, valsV, pickV, calm, calmB, lenV, useOf, feeds, looks, isT, newsV, partsV, fillV, putAt, zerosV, fitsNil, nilB, isEq, isNeq, sl, e]
    | true =>
      have h0 : a.m.user ≠ 0 := by simp [Me.right] at hr; omega
      cases b with
      | true => simp [aw_skip', aw_region', aw_seq', aw_cond', aw_block', aw_loop', aw_exit', aw_label', aw_ret', aops_nil', aops_cons', aop', aMove, aAssign, aPick, aAlloc, aBox, aBuild, aBuildSlice, aLoad, aLoadOwn, aStore, aNilCheck, aBin, aMakeFunc, aFieldAddr, aField, aIndexAddr, aExtract, aSliceOp, aSlice, aCallOp, aCall', aLen, aLenMap, aDelete, aMM, aUn, aConv, aIface, aAssert, aMakeMap, aLookup, aMapUpdate, aRange, aNext, aEntry, entsOf, keyB, lookV, aAppend, putK, layK, eval, evalV, AM.valOf, getF, putF, setF, del, SV.refers, cellsAt, rootSV, plains, shift, ldV, V.exact, V.exactL, V.ofValue, V.ofPart, V.ofCell, V.cells, V.one, Value.oneCell', fitB, qSeq, qBlock, getB, afin, aret, resVs, resV, resTmps, shareF, evalS, tupV, valsS, valsV, pickV, calm, calmB, lenV, useOf, feeds, looks, isT, newsV, partsV, fillV, putAt, zerosV, fitsNil, nilB, isEq, isNeq, sl, e]
      | false =>
        simp [aw_skip', aw_region', aw_seq', aw_cond', aw_block', aw_loop', aw_exit', aw_label', aw_ret', aops_nil', aops_cons', aop', aMove, aAssign, aPick, aAlloc, aBox, aBuild, aBuildSlice, aLoad, aLoadOwn, aStore, aNilCheck, aBin, aMakeFunc, aFieldAddr, aField, aIndexAddr, aExtract, aSliceOp, aSlice, aCallOp, aCall', aLen, aLenMap, aDelete, aMM, aUn, aConv, aIface, aAssert, aMakeMap, aLookup, aMapUpdate, aRange, aNext, aEntry, entsOf, keyB, lookV, aAppend, putK, layK, eval, evalV, AM.valOf, getF, putF, setF, del, SV.refers, cellsAt, rootSV, plains, shift, ldV, V.exact, V.exactL, V.ofValue, V.ofPart, V.ofCell, V.cells, V.one, Value.oneCell', fitB, qSeq, qBlock, getB, afin, aret, resVs, resV, resTmps, shareF, evalS, tupV, valsS, valsV, pickV, calm, calmB, lenV, useOf, feeds, looks, isT, newsV, partsV, fillV, putAt, zerosV, fitsNil, nilB, isEq, isNeq, sl, e]
        refine callK.pure (refPut xs a.m hx (hne _ h0)) (by simp [V.closedL, V.closed, sl, Me.v, Me.cs, hC]) (slClosed _) ?_
        simp [aw_skip', aw_region', aw_seq', aw_cond', aw_block', aw_loop', aw_exit', aw_label', aw_ret', aops_nil', aops_cons', aop', aMove, aAssign, aPick, aAlloc, aBox, aBuild, aBuildSlice, aLoad, aLoadOwn, aStore, aNilCheck, aBin, aMakeFunc, aFieldAddr, aField, aIndexAddr, aExtract, aSliceOp, aSlice, aCallOp, aCall', aLen, aLenMap, aDelete, aMM, aUn, aConv, aIface, aAssert, aMakeMap, aLookup, aMapUpdate, aRange, aNext, aEntry, entsOf, keyB, lookV, aAppend, putK, layK, eval, evalV, AM.valOf, getF, putF, setF, del, SV.refers, cellsAt, rootSV, plains, shift, ldV, V.exact, V.exactL, V.ofValue, V.ofPart, V.ofCell, V.cells, V.one, Value.oneCell', fitB, qSeq, qBlock, getB, afin, aret, resVs, resV, resTmps, shareF, evalS, tupV, valsS, valsV, pickV, calm, calmB, lenV, useOf, feeds, looks, isT, newsV, partsV, fillV, putAt, zerosV, fitsNil, nilB, isEq, isNeq, sl]
  have e : a.kind ≠ 0 := by simpa using e
  refine gd.intro (fun e1 => ?_) (fun e1 => ?_)
  · have e1 : a.kind = 1 := by simpa using e1
    by_cases h0 : a.m.user = 0
    · simp [gd, h0, e1]
    · have hmv := mv_sl (hne _ h0)
      rw [hmv] at hW
      cases b with
      | false => simp [gd, h0, e1]
      | true =>
        simp [gd, h0, e1]
        refine callK.pure hW (by simp [V.closedL, V.closed, sl, Me.v, Me.cs, hC]) (slClosed _) ?_
        simp [aw_skip', aw_region', aw_seq', aw_cond', aw_block', aw_loop', aw_exit', aw_label', aw_ret', aops_nil', aops_cons', aop', aMove, aAssign, aPick, aAlloc, aBox, aBuild, aBuildSlice, aLoad, aLoadOwn, aStore, aNilCheck, aBin, aMakeFunc, aFieldAddr, aField, aIndexAddr, aExtract, aSliceOp, aSlice, aCallOp, aCall', aLen, aLenMap, aDelete, aMM, aUn, aConv, aIface, aAssert, aMakeMap, aLookup, aMapUpdate, aRange, aNext, aEntry, entsOf, keyB, lookV, aAppend, putK, layK, eval, evalV, AM.valOf, getF, putF, setF, del, SV.refers, cellsAt, rootSV, plains, shift, ldV, V.exact, V.exactL, V.ofValue, V.ofPart, V.ofCell, V.cells, V.one, Value.oneCell', fitB, qSeq, qBlock, getB, afin, aret, resVs, resV, resTmps, shareF, evalS, tupV, valsS, valsV, pickV, calm, calmB, lenV, useOf, feeds, looks, isT, newsV, partsV, fillV, putAt, zerosV, fitsNil, nilB, isEq, isNeq, sl]
  have e1 : a.kind ≠ 1 := by simpa using e1
  refine gd.intro (fun e2 => ?_) (fun e2 => ?_)
  · have e2 : a.kind = 2 := by simpa using e2
    cases b with
    | false => simp [gd, e2]
    | true =>
      have hu := hk x rfl
      by_cases h0 : a.m.user = 0
      · simp [gd, h0, e2]
      by_cases h1 : a.pk < 1
      · simp [gd, h0, h1, e2]
      by_cases h2 : 65535 < a.pk
      · simp [gd, h0, h1, h2, e2]
      simp [gd, h0, h1, h2, e2]
      refine callK.pure (refPut xs { x with kk := a.pk, area := a.pa } hx (hne _ (by simpa [hu] using h0))) (by simp [V.closedL, V.closed, sl, Me.v, Me.cs, hC]) (slClosed _) ?_
      simp [aw_skip', aw_region', aw_seq', aw_cond', aw_block', aw_loop', aw_exit', aw_label', aw_ret', aops_nil', aops_cons', aop', aMove, aAssign, aPick, aAlloc, aBox, aBuild, aBuildSlice, aLoad, aLoadOwn, aStore, aNilCheck, aBin, aMakeFunc, aFieldAddr, aField, aIndexAddr, aExtract, aSliceOp, aSlice, aCallOp, aCall', aLen, aLenMap, aDelete, aMM, aUn, aConv, aIface, aAssert, aMakeMap, aLookup, aMapUpdate, aRange, aNext, aEntry, entsOf, keyB, lookV, aAppend, putK, layK, eval, evalV, AM.valOf, getF, putF, setF, del, SV.refers, cellsAt, rootSV, plains, shift, ldV, V.exact, V.exactL, V.ofValue, V.ofPart, V.ofCell, V.cells, V.one, Value.oneCell', fitB, qSeq, qBlock, getB, afin, aret, resVs, resV, resTmps, shareF, evalS, tupV, valsS, valsV, pickV, calm, calmB, lenV, useOf, feeds, looks, isT, newsV, partsV, fillV, putAt, zerosV, fitsNil, nilB, isEq, isNeq, sl]
  have e2 : a.kind ≠ 2 := by simpa using e2
  refine gd.intro (fun e3 => ?_) (fun e3 => ?_)
  · have e3 : a.kind = 3 := by simpa using e3
    cases b with
    | false => simp [gd, e3]
    | true =>
      have hu := hk x rfl
      by_cases h0 : a.m.user = 0
      · simp [gd, h0, e3]
      by_cases h1 : a.n < 0
      · simp [gd, h0, h1, e3]
      by_cases h2 : 65535 < a.n
      · simp [gd, h0, h1, h2, e3]
      simp [gd, h0, h1, h2, e3]
      refine callK.pure (refPut xs { x with quota := a.n } hx (hne _ (by simpa [hu] using h0))) (by simp [V.closedL, V.closed, sl, Me.v, Me.cs, hC]) (slClosed _) ?_
      simp [aw_skip', aw_region', aw_seq', aw_cond', aw_block', aw_loop', aw_exit', aw_label', aw_ret', aops_nil', aops_cons', aop', aMove, aAssign, aPick, aAlloc, aBox, aBuild, aBuildSlice, aLoad, aLoadOwn, aStore, aNilCheck, aBin, aMakeFunc, aFieldAddr, aField, aIndexAddr, aExtract, aSliceOp, aSlice, aCallOp, aCall', aLen, aLenMap, aDelete, aMM, aUn, aConv, aIface, aAssert, aMakeMap, aLookup, aMapUpdate, aRange, aNext, aEntry, entsOf, keyB, lookV, aAppend, putK, layK, eval, evalV, AM.valOf, getF, putF, setF, del, SV.refers, cellsAt, rootSV, plains, shift, ldV, V.exact, V.exactL, V.ofValue, V.ofPart, V.ofCell, V.cells, V.one, Value.oneCell', fitB, qSeq, qBlock, getB, afin, aret, resVs, resV, resTmps, shareF, evalS, tupV, valsS, valsV, pickV, calm, calmB, lenV, useOf, feeds, looks, isT, newsV, partsV, fillV, putAt, zerosV, fitsNil, nilB, isEq, isNeq, sl]
  have e3 : a.kind ≠ 3 := by simpa using e3
  refine callK.pure hS (by simp [V.closedL, V.closed, sl, Me.v, Me.cs, hC]) (by simp [V.closed, V.closedL, slClosed]) ?_
  simp [aw_skip', aw_region', aw_seq', aw_cond', aw_block', aw_loop', aw_exit', aw_label', aw_ret', aops_nil', aops_cons', aop', aMove, aAssign, aPick, aAlloc, aBox, aBuild, aBuildSlice, aLoad, aLoadOwn, aStore, aNilCheck, aBin, aMakeFunc, aFieldAddr, aField, aIndexAddr, aExtract, aSliceOp, aSlice, aCallOp, aCall', aLen, aLenMap, aDelete, aMM, aUn, aConv, aIface, aAssert, aMakeMap, aLookup, aMapUpdate, aRange, aNext, aEntry, entsOf, keyB, lookV, aAppend, putK, layK, eval, evalV, AM.valOf, getF, putF, setF, del, SV.refers, cellsAt, rootSV, plains, shift, ldV, V.exact, V.exactL, V.ofValue, V.ofPart, V.ofCell, V.cells, V.one, Value.oneCell', fitB, qSeq, qBlock, getB, afin, aret, resVs, resV, resTmps, shareF, evalS, tupV, valsS, valsV, pickV, calm, calmB, lenV, useOf, feeds, looks, isT, newsV, partsV, fillV, putAt, zerosV, fitsNil, nilB, isEq, isNeq, sl, e, e1, e2, e3]
def SI (xs ys : List Me) (n : Nat) (F : Fr) (H : List Bk) : Prop := ∃ i : Nat, n = xs.length - i ∧ i ≤ xs.length ∧ xs.take i = ys.take i ∧ H = [] ∧ F = [(0, .v (sl xs)), (1, .v (sl ys)), (5, .v (.sc (.int .i64 i)))]
theorem same (xs ys : List Me) (hx : xs.length ≤ 1000) : PFn Try.prog 38 [sl xs, sl ys] (.sc (.bool (decide (xs = ys)))) := by
  refine AFn.intro (fn := Try.f38) (by kernel_rfl) rfl (by kernel_rfl) (by simp) (AW.of mixed (by kernel_rfl) ?_)
  simp only [Try.f38, argsF]
  simp [aw_skip', aw_region', aw_seq', aw_cond', aw_block', aw_loop', aw_exit', aw_label', aw_ret', aops_nil', aops_cons', aop', aMove, aAssign, aPick, aAlloc, aBox, aBuild, aBuildSlice, aLoad, aLoadOwn, aStore, aNilCheck, aBin, aMakeFunc, aFieldAddr, aField, aIndexAddr, aExtract, aSliceOp, aSlice, aCallOp, aCall', aLen, aLenMap, aDelete, aMM, aUn, aConv, aIface, aAssert, aMakeMap, aLookup, aMapUpdate, aRange, aNext, aEntry, entsOf, keyB, lookV, aAppend, putK, layK, eval, evalV, AM.valOf, getF, putF, setF, del, SV.refers, cellsAt, rootSV, plains, shift, ldV, V.exact, V.exactL, V.ofValue, V.ofPart, V.ofCell, V.cells, V.one, Value.oneCell', fitB, qSeq, qBlock, getB, afin, aret, resVs, resV, resTmps, shareF, evalS, tupV, valsS, valsV, pickV, calm, calmB, lenV, useOf, feeds, looks, isT, newsV, partsV, fillV, putAt, zerosV, fitsNil, nilB, isEq, isNeq, sl]
  refine gd.intro (fun h => ?_) (fun h => ?_)
  · intro e; subst e; simp at h
  have h : xs.length = ys.length := by simp at h; omega
  refine AW.loop (SI xs ys) ⟨_, _, ?_, 0, rfl, Nat.zero_le _, rfl, rfl, rfl⟩ ?_
  · simp [subF, getF, sl]
  rintro n F H ⟨i, rfl, hi, ht, rfl, rfl⟩
  refine AW.of mixed (by kernel_rfl) ?_
  by_cases hlt : i < xs.length
  · have hy : i < ys.length := by omega
    have r1 := row_flat (enc := Me.cs) (sz := 6) (fun _ => rfl) hlt
    have r2 := row_flat (enc := Me.cs) (sz := 6) (fun _ => rfl) hy
    have w1 : IntKind.i64.wrap ((i : Int) + 1) = (i : Int) + 1 := by rw [wrap_i64] <;> omega
    simp [aw_skip', aw_region', aw_seq', aw_cond', aw_block', aw_loop', aw_exit', aw_label', aw_ret', aops_nil', aops_cons', aop', aMove, aAssign, aPick, aAlloc, aBox, aBuild, aBuildSlice, aLoad, aLoadOwn, aStore, aNilCheck, aBin, aMakeFunc, aFieldAddr, aField, aIndexAddr, aExtract, aSliceOp, aSlice, aCallOp, aCall', aLen, aLenMap, aDelete, aMM, aUn, aConv, aIface, aAssert, aMakeMap, aLookup, aMapUpdate, aRange, aNext, aEntry, entsOf, keyB, lookV, aAppend, putK, layK, eval, evalV, AM.valOf, getF, putF, setF, del, SV.refers, cellsAt, rootSV, plains, shift, ldV, V.exact, V.exactL, V.ofValue, V.ofPart, V.ofCell, V.cells, V.one, Value.oneCell', fitB, qSeq, qBlock, getB, afin, aret, resVs, resV, resTmps, shareF, evalS, tupV, valsS, valsV, pickV, calm, calmB, lenV, useOf, feeds, looks, isT, newsV, partsV, fillV, putAt, zerosV, fitsNil, nilB, isEq, isNeq, sl, hlt, hy, r1, r2, Me.cs, eqMe, gMe]
    by_cases he : xs[i] = ys[i]
    · rw [he]
      simp [gd]
      refine ⟨_, ?_, _, ?_, i + 1, rfl, by omega, by rw [List.take_succ_eq_append_getElem hlt, List.take_succ_eq_append_getElem hy, ht, he], rfl, rfl⟩
      · omega
      · simp [subF, getF, w1, sl]
    · have hd : xs ≠ ys := by rintro rfl; exact he rfl
      refine gd.intro (fun _ => hd) (fun e => absurd ?_ he)
      generalize xs[i] = p at *
      generalize ys[i] = q at *
      obtain ⟨p1, p2, p3, p4, p5, p6⟩ := p
      obtain ⟨q1, q2, q3, q4, q5, q6⟩ := q
      simp at e
      simp [e]
  · have e : xs = ys := by
      have hi : i = xs.length := by omega
      rw [hi, List.take_length, h, List.take_length] at ht
      exact ht
    subst e
    simp [aw_skip', aw_region', aw_seq', aw_cond', aw_block', aw_loop', aw_exit', aw_label', aw_ret', aops_nil', aops_cons', aop', aMove, aAssign, aPick, aAlloc, aBox, aBuild, aBuildSlice, aLoad, aLoadOwn, aStore, aNilCheck, aBin, aMakeFunc, aFieldAddr, aField, aIndexAddr, aExtract, aSliceOp, aSlice, aCallOp, aCall', aLen, aLenMap, aDelete, aMM, aUn, aConv, aIface, aAssert, aMakeMap, aLookup, aMapUpdate, aRange, aNext, aEntry, entsOf, keyB, lookV, aAppend, putK, layK, eval, evalV, AM.valOf, getF, putF, setF, del, SV.refers, cellsAt, rootSV, plains, shift, ldV, V.exact, V.exactL, V.ofValue, V.ofPart, V.ofCell, V.cells, V.one, Value.oneCell', fitB, qSeq, qBlock, getB, afin, aret, resVs, resV, resTmps, shareF, evalS, tupV, valsS, valsV, pickV, calm, calmB, lenV, useOf, feeds, looks, isT, newsV, partsV, fillV, putAt, zerosV, fitsNil, nilB, isEq, isNeq, sl, hlt]
end Go.Proofs.Ythognfmmjkmjnaa
