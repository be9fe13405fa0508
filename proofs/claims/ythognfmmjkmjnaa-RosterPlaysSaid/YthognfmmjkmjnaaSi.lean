/- The functions of the document's answer for the roster. -/
import Derived.Test.YthognfmmjkmjnaaSg
namespace Go.Proofs.Ythognfmmjkmjnaa
set_option linter.all false
open Go.RowKit AM
set_option maxRecDepth 10000

/-- A row of members as a value. -/
def mv : List Me → V
  | [] => .nil
  | x :: xs => .sl (xs.length + 1) 6 ((x :: xs).flatMap Me.cs)
def sl (xs : List Me) : V := .sl xs.length 6 (xs.flatMap Me.cs)
theorem mv_sl {xs : List Me} (h : xs ≠ []) : mv xs = sl xs := by
  cases xs with
  | nil => exact absurd rfl h
  | cons => rfl
theorem refNew : PFn Try.prog 34 [] (sl [Me.chief]) := by
  refine AFn.intro (fn := Try.f34) (by kernel_rfl) rfl (by kernel_rfl) (by simp) (AW.of mixed (by kernel_rfl) ?_)
  simp only [Try.f34, argsF]
  simp [aw_skip', aw_region', aw_seq', aw_cond', aw_block', aw_loop', aw_exit', aw_label', aw_ret', aops_nil', aops_cons', aop', aMove, aAssign, aPick, aAlloc, aBox, aBuild, aBuildSlice, aLoad, aLoadOwn, aStore, aNilCheck, aBin, aMakeFunc, aFieldAddr, aField, aIndexAddr, aExtract, aSliceOp, aSlice, aCallOp, aCall', aLen, aLenMap, aDelete, aMM, aUn, aConv, aIface, aAssert, aMakeMap, aLookup, aMapUpdate, aRange, aNext, aEntry, entsOf, keyB, lookV, aAppend, putK, layK, eval, evalV, AM.valOf, getF, putF, setF, del, SV.refers, cellsAt, rootSV, plains, shift, ldV, V.exact, V.exactL, V.ofValue, V.ofPart, V.ofCell, V.cells, V.one, Value.oneCell', fitB, qSeq, qBlock, getB, afin, aret, resVs, resV, resTmps, shareF, evalS, tupV, valsS, valsV, pickV, calm, calmB, lenV, useOf, feeds, looks, isT, newsV, partsV, fillV, putAt, zerosV, fitsNil, nilB, isEq, isNeq, sl, Me.chief, Me.cs]
theorem find_hit {k : Int} {xs : List Me} {i : Nat} (h : i < xs.length) (h0 : atK k (xs.take i) = []) (hu : xs[i].user = k) : findR xs k = (xs[i], true) := by
  rw [find_at]
  have : atK k xs = xs[i] :: atK k (xs.drop (i + 1)) := by
    have e : atK k xs = atK k (xs.take i) ++ atK k (xs.drop i) := by rw [← atK_app, List.take_append_drop]
    rw [e, h0, List.drop_eq_getElem_cons h, atK_cons, if_pos hu]
    rfl
  rw [this]
theorem at_step {k : Int} {xs : List Me} {i : Nat} (h : i < xs.length) (h0 : atK k (xs.take i) = []) (hu : xs[i].user ≠ k) : atK k (xs.take (i + 1)) = [] := by
  rw [List.take_succ_eq_append_getElem h, atK_app, h0, atK_cons, if_neg hu]
  rfl
def FI (xs : List Me) (k : Int) (n : Nat) (F : Fr) (H : List Bk) : Prop := ∃ i : Nat, n = xs.length - i ∧ i ≤ xs.length ∧ atK k (xs.take i) = [] ∧ H = [.cells (Me.none.cs.map .v)] ∧ F = [(0, .v (sl xs)), (1, .v (.sc (.int .i64 k))), (4, .v (.ptr 0 0)), (6, .v (.sc (.int .i64 i)))]
theorem refFind (xs : List Me) (k : Int) (hx : xs.length ≤ 1000) : PFn Try.prog 36 [sl xs, .sc (.int .i64 k)] (.tup [(findR xs k).1.v, .sc (.bool (findR xs k).2)]) := by
  refine AFn.intro (fn := Try.f36) (by kernel_rfl) rfl (by kernel_rfl) (by simp) (AW.of mixed (by kernel_rfl) ?_)
  simp only [Try.f36, argsF]
  simp [aw_skip', aw_region', aw_seq', aw_cond', aw_block', aw_loop', aw_exit', aw_label', aw_ret', aops_nil', aops_cons', aop', aMove, aAssign, aPick, aAlloc, aBox, aBuild, aBuildSlice, aLoad, aLoadOwn, aStore, aNilCheck, aBin, aMakeFunc, aFieldAddr, aField, aIndexAddr, aExtract, aSliceOp, aSlice, aCallOp, aCall', aLen, aLenMap, aDelete, aMM, aUn, aConv, aIface, aAssert, aMakeMap, aLookup, aMapUpdate, aRange, aNext, aEntry, entsOf, keyB, lookV, aAppend, putK, layK, eval, evalV, AM.valOf, getF, putF, setF, del, SV.refers, cellsAt, rootSV, plains, shift, ldV, V.exact, V.exactL, V.ofValue, V.ofPart, V.ofCell, V.cells, V.one, Value.oneCell', fitB, qSeq, qBlock, getB, afin, aret, resVs, resV, resTmps, shareF, evalS, tupV, valsS, valsV, pickV, calm, calmB, lenV, useOf, feeds, looks, isT, newsV, partsV, fillV, putAt, zerosV, fitsNil, nilB, isEq, isNeq, sl]
  refine AW.loop (FI xs k) ⟨_, _, ?_, 0, rfl, Nat.zero_le _, rfl, rfl, rfl⟩ ?_
  · simp [subF, getF, sl]
  rintro n F H ⟨i, rfl, hi, h0, rfl, rfl⟩
  refine AW.of mixed (by kernel_rfl) ?_
  by_cases hlt : i < xs.length
  · have r1 := row_flat (enc := Me.cs) (sz := 6) (fun _ => rfl) hlt
    have w1 : IntKind.i64.wrap ((i : Int) + 1) = (i : Int) + 1 := by rw [wrap_i64] <;> omega
    simp [aw_skip', aw_region', aw_seq', aw_cond', aw_block', aw_loop', aw_exit', aw_label', aw_ret', aops_nil', aops_cons', aop', aMove, aAssign, aPick, aAlloc, aBox, aBuild, aBuildSlice, aLoad, aLoadOwn, aStore, aNilCheck, aBin, aMakeFunc, aFieldAddr, aField, aIndexAddr, aExtract, aSliceOp, aSlice, aCallOp, aCall', aLen, aLenMap, aDelete, aMM, aUn, aConv, aIface, aAssert, aMakeMap, aLookup, aMapUpdate, aRange, aNext, aEntry, entsOf, keyB, lookV, aAppend, putK, layK, eval, evalV, AM.valOf, getF, putF, setF, del, SV.refers, cellsAt, rootSV, plains, shift, ldV, V.exact, V.exactL, V.ofValue, V.ofPart, V.ofCell, V.cells, V.one, Value.oneCell', fitB, qSeq, qBlock, getB, afin, aret, resVs, resV, resTmps, shareF, evalS, tupV, valsS, valsV, pickV, calm, calmB, lenV, useOf, feeds, looks, isT, newsV, partsV, fillV, putAt, zerosV, fitsNil, nilB, isEq, isNeq, sl, hlt, r1, Me.cs, Me.none]
    refine gd.intro (fun e => ?_) (fun e => ?_)
    · have e : xs[i].user = k := by simpa using e
      simp [aw_skip', aw_region', aw_seq', aw_cond', aw_block', aw_loop', aw_exit', aw_label', aw_ret', aops_nil', aops_cons', aop', aMove, aAssign, aPick, aAlloc, aBox, aBuild, aBuildSlice, aLoad, aLoadOwn, aStore, aNilCheck, aBin, aMakeFunc, aFieldAddr, aField, aIndexAddr, aExtract, aSliceOp, aSlice, aCallOp, aCall', aLen, aLenMap, aDelete, aMM, aUn, aConv, aIface, aAssert, aMakeMap, aLookup, aMapUpdate, aRange, aNext, aEntry, entsOf, keyB, lookV, aAppend, putK, layK, eval, evalV, AM.valOf, getF, putF, setF, del, SV.refers, cellsAt, rootSV, plains, shift, ldV, V.exact, V.exactL, V.ofValue, V.ofPart, V.ofCell, V.cells, V.one, Value.oneCell', fitB, qSeq, qBlock, getB, afin, aret, resVs, resV, resTmps, shareF, evalS, tupV, valsS, valsV, pickV, calm, calmB, lenV, useOf, feeds, looks, isT, newsV, partsV, fillV, putAt, zerosV, fitsNil, nilB, isEq, isNeq, sl, hlt, r1, Me.cs, Me.none, setCells, setBlk]
      rw [find_hit hlt h0 e]
      exact ⟨rfl, rfl⟩
    · have e : xs[i].user ≠ k := by simpa using e
      refine ⟨_, ?_, _, ?_, i + 1, rfl, by omega, at_step hlt h0 e, rfl, rfl⟩
      · omega
      · simp [subF, getF, w1, sl]
  · have hi : i = xs.length := by omega
    have h1 : findR xs k = (Me.none, false) := by
      rw [find_at]
      rw [hi, List.take_length] at h0
      rw [h0]
    simp [aw_skip', aw_region', aw_seq', aw_cond', aw_block', aw_loop', aw_exit', aw_label', aw_ret', aops_nil', aops_cons', aop', aMove, aAssign, aPick, aAlloc, aBox, aBuild, aBuildSlice, aLoad, aLoadOwn, aStore, aNilCheck, aBin, aMakeFunc, aFieldAddr, aField, aIndexAddr, aExtract, aSliceOp, aSlice, aCallOp, aCall', aLen, aLenMap, aDelete, aMM, aUn, aConv, aIface, aAssert, aMakeMap, aLookup, aMapUpdate, aRange, aNext, aEntry, entsOf, keyB, lookV, aAppend, putK, layK, eval, evalV, AM.valOf, getF, putF, setF, del, SV.refers, cellsAt, rootSV, plains, shift, ldV, V.exact, V.exactL, V.ofValue, V.ofPart, V.ofCell, V.cells, V.one, Value.oneCell', fitB, qSeq, qBlock, getB, afin, aret, resVs, resV, resTmps, shareF, evalS, tupV, valsS, valsV, pickV, calm, calmB, lenV, useOf, feeds, looks, isT, newsV, partsV, fillV, putAt, zerosV, fitsNil, nilB, isEq, isNeq, sl, hlt, h1, Me.cs, Me.none, Me.v, setCells, setBlk]
def wo (xs : List Me) (k : Int) : List Me := xs.filter fun x => !decide (x.user = k)
def outW (xs : List Me) (k : Int) (i : Nat) : List Me := wo (xs.take i) k
def WI (xs : List Me) (k : Int) (n : Nat) (F : Fr) (H : List Bk) : Prop := ∃ i : Nat, n = xs.length - i ∧ i ≤ xs.length ∧ H = [] ∧ F = [(0, .v (sl xs)), (1, .v (.sc (.int .i64 k))), (5, rowM (outW xs k i)), (6, .v (.sc (.int .i64 i)))]
theorem refWithout (xs : List Me) (k : Int) (hx : xs.length ≤ 1000) : PFn Try.prog 51 [sl xs, .sc (.int .i64 k)] (mv (wo xs k)) := by
  refine AFn.intro (fn := Try.f51) (by kernel_rfl) rfl (by kernel_rfl) (by simp) (AW.of mixed (by kernel_rfl) ?_)
  simp only [Try.f51, argsF]
  simp [aw_skip', aw_region', aw_seq', aw_cond', aw_block', aw_loop', aw_exit', aw_label', aw_ret', aops_nil', aops_cons', aop', aMove, aAssign, aPick, aAlloc, aBox, aBuild, aBuildSlice, aLoad, aLoadOwn, aStore, aNilCheck, aBin, aMakeFunc, aFieldAddr, aField, aIndexAddr, aExtract, aSliceOp, aSlice, aCallOp, aCall', aLen, aLenMap, aDelete, aMM, aUn, aConv, aIface, aAssert, aMakeMap, aLookup, aMapUpdate, aRange, aNext, aEntry, entsOf, keyB, lookV, aAppend, putK, layK, eval, evalV, AM.valOf, getF, putF, setF, del, SV.refers, cellsAt, rootSV, plains, shift, ldV, V.exact, V.exactL, V.ofValue, V.ofPart, V.ofCell, V.cells, V.one, Value.oneCell', fitB, qSeq, qBlock, getB, afin, aret, resVs, resV, resTmps, shareF, evalS, tupV, valsS, valsV, pickV, calm, calmB, lenV, useOf, feeds, looks, isT, newsV, partsV, fillV, putAt, zerosV, fitsNil, nilB, isEq, isNeq, sl]
  refine AW.loop (WI xs k) ⟨_, _, ?_, 0, rfl, Nat.zero_le _, rfl, rfl⟩ ?_
  · simp [subF, getF, sl, outW, wo, rowM]
  rintro n F H ⟨i, rfl, hi, rfl, rfl⟩
  refine AW.of mixed (by kernel_rfl) ?_
  by_cases hlt : i < xs.length
  · have r1 := row_flat (enc := Me.cs) (sz := 6) (fun _ => rfl) hlt
    have w1 : IntKind.i64.wrap ((i : Int) + 1) = (i : Int) + 1 := by rw [wrap_i64] <;> omega
    have hnx : outW xs k (i + 1) = outW xs k i ++ if xs[i].user = k then [] else [xs[i]] := by
      unfold outW wo
      rw [List.take_succ_eq_append_getElem hlt, List.filter_append]
      by_cases h : xs[i].user = k <;> simp [h]
    have hol : (outW xs k i).length ≤ i := by
      have := List.length_filter_le (fun x : Me => !decide (x.user = k)) (xs.take i)
      simp at this
      unfold outW wo
      omega
    rcases hout : outW xs k i with _ | ⟨x0, ys⟩
    · simp only [rowM]
      simp [aw_skip', aw_region', aw_seq', aw_cond', aw_block', aw_loop', aw_exit', aw_label', aw_ret', aops_nil', aops_cons', aop', aMove, aAssign, aPick, aAlloc, aBox, aBuild, aBuildSlice, aLoad, aLoadOwn, aStore, aNilCheck, aBin, aMakeFunc, aFieldAddr, aField, aIndexAddr, aExtract, aSliceOp, aSlice, aCallOp, aCall', aLen, aLenMap, aDelete, aMM, aUn, aConv, aIface, aAssert, aMakeMap, aLookup, aMapUpdate, aRange, aNext, aEntry, entsOf, keyB, lookV, aAppend, putK, layK, eval, evalV, AM.valOf, getF, putF, setF, del, SV.refers, cellsAt, rootSV, plains, shift, ldV, V.exact, V.exactL, V.ofValue, V.ofPart, V.ofCell, V.cells, V.one, Value.oneCell', fitB, qSeq, qBlock, getB, afin, aret, resVs, resV, resTmps, shareF, evalS, tupV, valsS, valsV, pickV, calm, calmB, lenV, useOf, feeds, looks, isT, newsV, partsV, fillV, putAt, zerosV, fitsNil, nilB, isEq, isNeq, sl, hlt, r1, Me.cs]
      refine gd.intro (fun e => ?_) (fun e => ?_)
      · have e : ¬ xs[i].user = k := by simpa using e
        rw [hout, if_neg e] at hnx
        refine ⟨_, ?_, _, ?_, i + 1, rfl, by omega, rfl, rfl⟩
        · omega
        · rw [hnx]; simp [subF, getF, w1, sl, rowM, Me.cs]
      · have e : xs[i].user = k := by simpa using e
        rw [hout, if_pos e] at hnx
        refine ⟨_, ?_, _, ?_, i + 1, rfl, by omega, rfl, rfl⟩
        · omega
        · rw [hnx]; simp [subF, getF, w1, sl, rowM, Me.cs]
    · simp only [rowM]
      have hys : ys.length + 1 ≤ i := by rw [hout] at hol; simpa using hol
      simp [aw_skip', aw_region', aw_seq', aw_cond', aw_block', aw_loop', aw_exit', aw_label', aw_ret', aops_nil', aops_cons', aop', aMove, aAssign, aPick, aAlloc, aBox, aBuild, aBuildSlice, aLoad, aLoadOwn, aStore, aNilCheck, aBin, aMakeFunc, aFieldAddr, aField, aIndexAddr, aExtract, aSliceOp, aSlice, aCallOp, aCall', aLen, aLenMap, aDelete, aMM, aUn, aConv, aIface, aAssert, aMakeMap, aLookup, aMapUpdate, aRange, aNext, aEntry, entsOf, keyB, lookV, aAppend, putK, layK, eval, evalV, AM.valOf, getF, putF, setF, del, SV.refers, cellsAt, rootSV, plains, shift, ldV, V.exact, V.exactL, V.ofValue, V.ofPart, V.ofCell, V.cells, V.one, Value.oneCell', fitB, qSeq, qBlock, getB, afin, aret, resVs, resV, resTmps, shareF, evalS, tupV, valsS, valsV, pickV, calm, calmB, lenV, useOf, feeds, looks, isT, newsV, partsV, fillV, putAt, zerosV, fitsNil, nilB, isEq, isNeq, sl, hlt, r1, Me.cs]
      refine gd.intro (fun e => ?_) (fun e => ?_)
      · have e : ¬ xs[i].user = k := by simpa using e
        rw [hout, if_neg e] at hnx
        refine ⟨by omega, _, ?_, _, ?_, i + 1, rfl, by omega, rfl, rfl⟩
        · omega
        · rw [hnx]; simp [subF, getF, w1, sl, rowM, Me.cs]
      · have e : xs[i].user = k := by simpa using e
        rw [hout, if_pos e] at hnx
        refine ⟨_, ?_, _, ?_, i + 1, rfl, by omega, rfl, rfl⟩
        · omega
        · rw [hnx]; simp [subF, getF, w1, sl, rowM, Me.cs]
  · have hi : i = xs.length := by omega
    have h1 : outW xs k i = wo xs k := by unfold outW; rw [hi, List.take_length]
    rw [h1]
    generalize wo xs k = zs
    cases zs with
    | nil =>
      simp only [rowM]
      simp [aw_skip', aw_region', aw_seq', aw_cond', aw_block', aw_loop', aw_exit', aw_label', aw_ret', aops_nil', aops_cons', aop', aMove, aAssign, aPick, aAlloc, aBox, aBuild, aBuildSlice, aLoad, aLoadOwn, aStore, aNilCheck, aBin, aMakeFunc, aFieldAddr, aField, aIndexAddr, aExtract, aSliceOp, aSlice, aCallOp, aCall', aLen, aLenMap, aDelete, aMM, aUn, aConv, aIface, aAssert, aMakeMap, aLookup, aMapUpdate, aRange, aNext, aEntry, entsOf, keyB, lookV, aAppend, putK, layK, eval, evalV, AM.valOf, getF, putF, setF, del, SV.refers, cellsAt, rootSV, plains, shift, ldV, V.exact, V.exactL, V.ofValue, V.ofPart, V.ofCell, V.cells, V.one, Value.oneCell', fitB, qSeq, qBlock, getB, afin, aret, resVs, resV, resTmps, shareF, evalS, tupV, valsS, valsV, pickV, calm, calmB, lenV, useOf, feeds, looks, isT, newsV, partsV, fillV, putAt, zerosV, fitsNil, nilB, isEq, isNeq, sl, hlt, mv]
    | cons x0 ys =>
      simp only [rowM]
      simp [aw_skip', aw_region', aw_seq', aw_cond', aw_block', aw_loop', aw_exit', aw_label', aw_ret', aops_nil', aops_cons', aop', aMove, aAssign, aPick, aAlloc, aBox, aBuild, aBuildSlice, aLoad, aLoadOwn, aStore, aNilCheck, aBin, aMakeFunc, aFieldAddr, aField, aIndexAddr, aExtract, aSliceOp, aSlice, aCallOp, aCall', aLen, aLenMap, aDelete, aMM, aUn, aConv, aIface, aAssert, aMakeMap, aLookup, aMapUpdate, aRange, aNext, aEntry, entsOf, keyB, lookV, aAppend, putK, layK, eval, evalV, AM.valOf, getF, putF, setF, del, SV.refers, cellsAt, rootSV, plains, shift, ldV, V.exact, V.exactL, V.ofValue, V.ofPart, V.ofCell, V.cells, V.one, Value.oneCell', fitB, qSeq, qBlock, getB, afin, aret, resVs, resV, resTmps, shareF, evalS, tupV, valsS, valsV, pickV, calm, calmB, lenV, useOf, feeds, looks, isT, newsV, partsV, fillV, putAt, zerosV, fitsNil, nilB, isEq, isNeq, sl, hlt, mv]
/-- One round of Put. -/
def putS (x : Me) (p : List Me × Bool) (y : Me) : List Me × Bool := if p.2 = false ∧ x.user < y.user then (p.1 ++ [x, y], true) else (p.1 ++ [y], p.2)
def putG (x : Me) (ys : List Me) : List Me × Bool := ys.foldl (putS x) ([], false)
def putR (xs : List Me) (x : Me) : List Me := let p := putG x (wo xs x.user); if p.2 then p.1 else p.1 ++ [x]
def PI (x : Me) (ys : List Me) (n : Nat) (F : Fr) (H : List Bk) : Prop := ∃ i : Nat, n = ys.length - i ∧ i ≤ ys.length ∧ H = [.cells (x.cs.map .v)] ∧ F = [(0, .v (sl ys)), (3, .v (.ptr 0 0)), (5, rowM (putG x (ys.take i)).1), (6, .v (.sc (.bool (putG x (ys.take i)).2))), (7, .v (.sc (.int .i64 i)))]
theorem putG_len (x : Me) : ∀ (ys : List Me), (putG x ys).1.length ≤ ys.length + 1 := by
  have : ∀ (ys : List Me) (p : List Me × Bool), (ys.foldl (putS x) p).1.length ≤ p.1.length + ys.length + (if p.2 then 0 else 1) := by
    intro ys
    induction ys with
    | nil => intro p; simp
    | cons y ys ih =>
      intro p
      simp only [List.foldl_cons]
      refine Nat.le_trans (ih _) ?_
      unfold putS
      obtain ⟨o, b⟩ := p
      cases b <;> by_cases h : x.user < y.user <;> simp [h] <;> omega
  intro ys
  have := this ys ([], false)
  unfold putG
  simp at this
  exact this
theorem putG_ge (x : Me) : ∀ (ys : List Me), ys.length ≤ (putG x ys).1.length := by
  have : ∀ (ys : List Me) (p : List Me × Bool), p.1.length + ys.length ≤ (ys.foldl (putS x) p).1.length := by
    intro ys
    induction ys with
    | nil => intro p; simp
    | cons y ys ih =>
      intro p
      simp only [List.foldl_cons]
      refine Nat.le_trans ?_ (ih _)
      unfold putS
      obtain ⟨o, b⟩ := p
      cases b <;> by_cases h : x.user < y.user <;> simp [h] <;> omega
  intro ys
  have := this ys ([], false)
  unfold putG
  simp at this
  exact this
theorem refPut (xs : List Me) (x : Me) (hx : xs.length ≤ 1000) (hne : wo xs x.user ≠ []) : PFn Try.prog 50 [sl xs, x.v] (sl (putR xs x)) := by
  refine AFn.intro (fn := Try.f50) (by kernel_rfl) rfl (by kernel_rfl) (by simp) ?_
  have hW := refWithout xs x.user hx
  rw [mv_sl hne] at hW
  have hlen : (wo xs x.user).length ≤ 1000 := Nat.le_trans (List.length_filter_le _ _) hx
  unfold putR
  generalize wo xs x.user = ys at *
  unfold Me.v Me.cs
  simp only [Try.f50, argsF]
  refine AW.of mixed (by kernel_rfl) ?_
  simp [aw_skip', aw_region', aw_seq', aw_cond', aw_block', aw_loop', aw_exit', aw_label', aw_ret', aops_nil', aops_cons', aop', aMove, aAssign, aPick, aAlloc, aBox, aBuild, aBuildSlice, aLoad, aLoadOwn, aStore, aNilCheck, aBin, aMakeFunc, aFieldAddr, aField, aIndexAddr, aExtract, aSliceOp, aSlice, aCallOp, aCall', aLen, aLenMap, aDelete, aMM, aUn, aConv, aIface, aAssert, aMakeMap, aLookup, aMapUpdate, aRange, aNext, aEntry, entsOf, keyB, lookV, aAppend, putK, layK, eval, evalV, AM.valOf, getF, putF, setF, del, SV.refers, cellsAt, rootSV, plains, shift, ldV, V.exact, V.exactL, V.ofValue, V.ofPart, V.ofCell, V.cells, V.one, Value.oneCell', fitB, qSeq, qBlock, getB, afin, aret, resVs, resV, resTmps, shareF, evalS, tupV, valsS, valsV, pickV, calm, calmB, lenV, useOf, feeds, looks, isT, newsV, partsV, fillV, putAt, zerosV, fitsNil, nilB, isEq, isNeq, sl]
  refine callK.pure hW (by simp [V.closedL, sl, V.closed, closed_flat (enc := Me.cs) (fun _ => rfl)]) (by simp [sl, V.closed, closed_flat (enc := Me.cs) (fun _ => rfl)]) ?_
  simp [aw_skip', aw_region', aw_seq', aw_cond', aw_block', aw_loop', aw_exit', aw_label', aw_ret', aops_nil', aops_cons', aop', aMove, aAssign, aPick, aAlloc, aBox, aBuild, aBuildSlice, aLoad, aLoadOwn, aStore, aNilCheck, aBin, aMakeFunc, aFieldAddr, aField, aIndexAddr, aExtract, aSliceOp, aSlice, aCallOp, aCall', aLen, aLenMap, aDelete, aMM, aUn, aConv, aIface, aAssert, aMakeMap, aLookup, aMapUpdate, aRange, aNext, aEntry, entsOf, keyB, lookV, aAppend, putK, layK, eval, evalV, AM.valOf, getF, putF, setF, del, SV.refers, cellsAt, rootSV, plains, shift, ldV, V.exact, V.exactL, V.ofValue, V.ofPart, V.ofCell, V.cells, V.one, Value.oneCell', fitB, qSeq, qBlock, getB, afin, aret, resVs, resV, resTmps, shareF, evalS, tupV, valsS, valsV, pickV, calm, calmB, lenV, useOf, feeds, looks, isT, newsV, partsV, fillV, putAt, zerosV, fitsNil, nilB, isEq, isNeq, sl]
  refine AW.loop (PI x ys) ⟨_, _, ?_, 0, rfl, Nat.zero_le _, rfl, rfl⟩ ?_
  · simp [subF, getF, sl, putG, rowM]
  rintro n F H ⟨i, rfl, hi, rfl, rfl⟩
  refine AW.of mixed (by kernel_rfl) ?_
  by_cases hlt : i < ys.length
  · have r1 := row_flat (enc := Me.cs) (sz := 6) (fun _ => rfl) hlt
    have w1 : IntKind.i64.wrap ((i : Int) + 1) = (i : Int) + 1 := by rw [wrap_i64] <;> omega
    have hnx : putG x (ys.take (i + 1)) = putS x (putG x (ys.take i)) ys[i] := by
      unfold putG
      rw [List.take_succ_eq_append_getElem hlt, List.foldl_append]
      rfl
    have hol := putG_len x (ys.take i)
    simp only [List.length_take] at hol
    generalize putG x (ys.take i) = p at *
    obtain ⟨o, b⟩ := p
    rcases o with _ | ⟨x0, o⟩ <;> cases b <;> by_cases hu : x.user < ys[i].user
    all_goals
      simp only [rowM, Me.cs, List.map_cons, List.map_nil]
      simp [aw_skip', aw_region', aw_seq', aw_cond', aw_block', aw_loop', aw_exit', aw_label', aw_ret', aops_nil', aops_cons', aop', aMove, aAssign, aPick, aAlloc, aBox, aBuild, aBuildSlice, aLoad, aLoadOwn, aStore, aNilCheck, aBin, aMakeFunc, aFieldAddr, aField, aIndexAddr, aExtract, aSliceOp, aSlice, aCallOp, aCall', aLen, aLenMap, aDelete, aMM, aUn, aConv, aIface, aAssert, aMakeMap, aLookup, aMapUpdate, aRange, aNext, aEntry, entsOf, keyB, lookV, aAppend, putK, layK, eval, evalV, AM.valOf, getF, putF, setF, del, SV.refers, cellsAt, rootSV, plains, shift, ldV, V.exact, V.exactL, V.ofValue, V.ofPart, V.ofCell, V.cells, V.one, Value.oneCell', fitB, qSeq, qBlock, getB, afin, aret, resVs, resV, resTmps, shareF, evalS, tupV, valsS, valsV, pickV, calm, calmB, lenV, useOf, feeds, looks, isT, newsV, partsV, fillV, putAt, zerosV, fitsNil, nilB, isEq, isNeq, sl, hlt, r1, hu, Me.cs]
      simp only [List.length_cons, List.length_nil] at hol
      first
      | (refine ⟨_, ?_, _, ?_, i + 1, rfl, by omega, rfl, rfl⟩
         · omega
         · rw [hnx]; simp [subF, getF, w1, sl, rowM, Me.cs, putS, hu])
      | (refine ⟨by omega, _, ?_, _, ?_, i + 1, rfl, by omega, rfl, rfl⟩
         · omega
         · rw [hnx]; simp [subF, getF, w1, sl, rowM, Me.cs, putS, hu])
      | (refine ⟨by omega, by omega, _, ?_, _, ?_, i + 1, rfl, by omega, rfl, rfl⟩
         · omega
         · rw [hnx]; simp [subF, getF, w1, sl, rowM, Me.cs, putS, hu])
  · have hi : i = ys.length := by omega
    rw [hi, List.take_length]
    have hol := putG_len x ys
    have hge := putG_ge x ys
    have hpos : 0 < ys.length := List.length_pos_iff.2 hne
    generalize putG x ys = p at *
    obtain ⟨o, b⟩ := p
    rcases o with _ | ⟨x0, o⟩ <;> cases b
    all_goals
      simp only [rowM, Me.cs, List.map_cons, List.map_nil]
      simp only [List.length_cons, List.length_nil] at hol hge
      simp [aw_skip', aw_region', aw_seq', aw_cond', aw_block', aw_loop', aw_exit', aw_label', aw_ret', aops_nil', aops_cons', aop', aMove, aAssign, aPick, aAlloc, aBox, aBuild, aBuildSlice, aLoad, aLoadOwn, aStore, aNilCheck, aBin, aMakeFunc, aFieldAddr, aField, aIndexAddr, aExtract, aSliceOp, aSlice, aCallOp, aCall', aLen, aLenMap, aDelete, aMM, aUn, aConv, aIface, aAssert, aMakeMap, aLookup, aMapUpdate, aRange, aNext, aEntry, entsOf, keyB, lookV, aAppend, putK, layK, eval, evalV, AM.valOf, getF, putF, setF, del, SV.refers, cellsAt, rootSV, plains, shift, ldV, V.exact, V.exactL, V.ofValue, V.ofPart, V.ofCell, V.cells, V.one, Value.oneCell', fitB, qSeq, qBlock, getB, afin, aret, resVs, resV, resTmps, shareF, evalS, tupV, valsS, valsV, pickV, calm, calmB, lenV, useOf, feeds, looks, isT, newsV, partsV, fillV, putAt, zerosV, fitsNil, nilB, isEq, isNeq, sl, Me.cs]
    all_goals omega
/-- What the document's Spend gives. -/
def spendF (xs : List Me) (k : Int) : List Me × Int := if (findR xs k).2 then (if k = 0 then (xs, 0) else if (findR xs k).1.quota = 0 then (xs, 41) else (putR xs { (findR xs k).1 with quota := IntKind.i64.wrap ((findR xs k).1.quota - 1) }, 0)) else (xs, 21)
theorem slClosed (xs : List Me) : V.closed (sl xs) = true := by simp [sl, V.closed, closed_flat (enc := Me.cs) (fun _ => rfl)]
theorem refSpend (xs : List Me) (k : Int) (hx : xs.length ≤ 1000) (hne : ∀ j, j ≠ 0 → wo xs j ≠ []) (hk : ∀ x, findR xs k = (x, true) → x.user = k) : PFn Try.prog 52 [sl xs, .sc (.int .i64 k)] (.tup [sl (spendF xs k).1, .sc (.int .i64 (spendF xs k).2)]) := by
  refine AFn.intro (fn := Try.f52) (by kernel_rfl) rfl (by kernel_rfl) (by simp) (AW.of mixed (by kernel_rfl) ?_)
  simp only [Try.f52, argsF]
  simp [aw_skip', aw_region', aw_seq', aw_cond', aw_block', aw_loop', aw_exit', aw_label', aw_ret', aops_nil', aops_cons', aop', aMove, aAssign, aPick, aAlloc, aBox, aBuild, aBuildSlice, aLoad, aLoadOwn, aStore, aNilCheck, aBin, aMakeFunc, aFieldAddr, aField, aIndexAddr, aExtract, aSliceOp, aSlice, aCallOp, aCall', aLen, aLenMap, aDelete, aMM, aUn, aConv, aIface, aAssert, aMakeMap, aLookup, aMapUpdate, aRange, aNext, aEntry, entsOf, keyB, lookV, aAppend, putK, layK, eval, evalV, AM.valOf, getF, putF, setF, del, SV.refers, cellsAt, rootSV, plains, shift, ldV, V.exact, V.exactL, V.ofValue, V.ofPart, V.ofCell, V.cells, V.one, Value.oneCell', fitB, qSeq, qBlock, getB, afin, aret, resVs, resV, resTmps, shareF, evalS, tupV, valsS, valsV, pickV, calm, calmB, lenV, useOf, feeds, looks, isT, newsV, partsV, fillV, putAt, zerosV, fitsNil, nilB, isEq, isNeq, sl]
  refine callK.pure (refFind xs k hx) (by simp [V.closedL, V.closed, sl, closed_flat (enc := Me.cs) (fun _ => rfl)]) (by simp [V.closed, V.closedL, Me.v, Me.cs]) ?_
  unfold spendF
  generalize hf : findR xs k = fx at *
  obtain ⟨x, b⟩ := fx
  simp [aw_skip', aw_region', aw_seq', aw_cond', aw_block', aw_loop', aw_exit', aw_label', aw_ret', aops_nil', aops_cons', aop', aMove, aAssign, aPick, aAlloc, aBox, aBuild, aBuildSlice, aLoad, aLoadOwn, aStore, aNilCheck, aBin, aMakeFunc, aFieldAddr, aField, aIndexAddr, aExtract, aSliceOp, aSlice, aCallOp, aCall', aLen, aLenMap, aDelete, aMM, aUn, aConv, aIface, aAssert, aMakeMap, aLookup, aMapUpdate, aRange, aNext, aEntry, entsOf, keyB, lookV, aAppend, putK, layK, eval, evalV, AM.valOf, getF, putF, setF, del, SV.refers, cellsAt, rootSV, plains, shift, ldV, V.exact, V.exactL, V.ofValue, V.ofPart, V.ofCell, V.cells, V.one, Value.oneCell', fitB, qSeq, qBlock, getB, afin, aret, resVs, resV, resTmps, shareF, evalS, tupV, valsS, valsV, pickV, calm, calmB, lenV, useOf, feeds, looks, isT, newsV, partsV, fillV, putAt, zerosV, fitsNil, nilB, isEq, isNeq, sl, Me.v, Me.cs, setCells, setBlk]
  cases b with
  | false =>
    simp [aw_skip', aw_region', aw_seq', aw_cond', aw_block', aw_loop', aw_exit', aw_label', aw_ret', aops_nil', aops_cons', aop', aMove, aAssign, aPick, aAlloc, aBox, aBuild, aBuildSlice, aLoad, aLoadOwn, aStore, aNilCheck, aBin, aMakeFunc, aFieldAddr, aField, aIndexAddr, aExtract, aSliceOp, aSlice, aCallOp, aCall', aLen, aLenMap, aDelete, aMM, aUn, aConv, aIface, aAssert, aMakeMap, aLookup, aMapUpdate, aRange, aNext, aEntry, entsOf, keyB, lookV, aAppend, putK, layK, eval, evalV, AM.valOf, getF, putF, setF, del, SV.refers, cellsAt, rootSV, plains, shift, ldV, V.exact, V.exactL, V.ofValue, V.ofPart, V.ofCell, V.cells, V.one, Value.oneCell', fitB, qSeq, qBlock, getB, afin, aret, resVs, resV, resTmps, shareF, evalS, tupV, valsS, valsV, pickV, calm, calmB, lenV, useOf, feeds, looks, isT, newsV, partsV, fillV, putAt, zerosV, fitsNil, nilB, isEq, isNeq, sl]
  | true =>
    have hu : x.user = k := hk x rfl
    simp [aw_skip', aw_region', aw_seq', aw_cond', aw_block', aw_loop', aw_exit', aw_label', aw_ret', aops_nil', aops_cons', aop', aMove, aAssign, aPick, aAlloc, aBox, aBuild, aBuildSlice, aLoad, aLoadOwn, aStore, aNilCheck, aBin, aMakeFunc, aFieldAddr, aField, aIndexAddr, aExtract, aSliceOp, aSlice, aCallOp, aCall', aLen, aLenMap, aDelete, aMM, aUn, aConv, aIface, aAssert, aMakeMap, aLookup, aMapUpdate, aRange, aNext, aEntry, entsOf, keyB, lookV, aAppend, putK, layK, eval, evalV, AM.valOf, getF, putF, setF, del, SV.refers, cellsAt, rootSV, plains, shift, ldV, V.exact, V.exactL, V.ofValue, V.ofPart, V.ofCell, V.cells, V.one, Value.oneCell', fitB, qSeq, qBlock, getB, afin, aret, resVs, resV, resTmps, shareF, evalS, tupV, valsS, valsV, pickV, calm, calmB, lenV, useOf, feeds, looks, isT, newsV, partsV, fillV, putAt, zerosV, fitsNil, nilB, isEq, isNeq, sl]
    by_cases h0 : k = 0
    · simp [gd, h0]
    by_cases h1 : x.quota = 0
    · simp [gd, h0, h1]
    simp only [beq_eq_false_iff_ne.2 h0, beq_eq_false_iff_ne.2 h1, gd_ft, if_neg h0, if_neg h1]
    refine callK.pure (refPut xs { x with quota := IntKind.i64.wrap (x.quota - 1) } hx (hne _ (by simpa [hu] using h0))) (by simp [V.closedL, V.closed, sl, Me.v, Me.cs, closed_flat (enc := Me.cs) (fun _ => rfl)]) (slClosed _) ?_
    simp [aw_skip', aw_region', aw_seq', aw_cond', aw_block', aw_loop', aw_exit', aw_label', aw_ret', aops_nil', aops_cons', aop', aMove, aAssign, aPick, aAlloc, aBox, aBuild, aBuildSlice, aLoad, aLoadOwn, aStore, aNilCheck, aBin, aMakeFunc, aFieldAddr, aField, aIndexAddr, aExtract, aSliceOp, aSlice, aCallOp, aCall', aLen, aLenMap, aDelete, aMM, aUn, aConv, aIface, aAssert, aMakeMap, aLookup, aMapUpdate, aRange, aNext, aEntry, entsOf, keyB, lookV, aAppend, putK, layK, eval, evalV, AM.valOf, getF, putF, setF, del, SV.refers, cellsAt, rootSV, plains, shift, ldV, V.exact, V.exactL, V.ofValue, V.ofPart, V.ofCell, V.cells, V.one, Value.oneCell', fitB, qSeq, qBlock, getB, afin, aret, resVs, resV, resTmps, shareF, evalS, tupV, valsS, valsV, pickV, calm, calmB, lenV, useOf, feeds, looks, isT, newsV, partsV, fillV, putAt, zerosV, fitsNil, nilB, isEq, isNeq, sl]
end Go.Proofs.Ythognfmmjkmjnaa
