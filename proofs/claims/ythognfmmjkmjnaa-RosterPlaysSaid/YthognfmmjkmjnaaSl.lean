/- The law RosterPlays: its walk. -/
import Derived.Test.YthognfmmjkmjnaaSk
namespace Go.Proofs.Ythognfmmjkmjnaa
set_option linter.all false
open Go.RowKit AM
set_option maxRecDepth 10000

theorem turn_len (f : Me → Me × Int) (l : List Me) (k : Int) : (turnR f l k).1.length = l.length := by
  unfold turnR
  split <;> simp
theorem does_len (l : List Me) (a : Deed) : (doesR l a).1.length ≤ l.length + 1 := by
  unfold doesR
  split
  · unfold enrolR
    split
    · split <;> simp
    · simp
  split
  · unfold dropR
    split
    · simp
    · split
      · simp only [List.length_eraseIdx]; split <;> omega
      · simp
  split
  · rw [turn_len]; omega
  split
  · rw [turn_len]; omega
  · rw [turn_len]; omega
def PL (ds : List Deed) (r m : Nat) (n : Nat) (F : Fr) (H : List Bk) : Prop := ∃ (k : Nat) (l xs : List Me), n = ds.length - k ∧ k ≤ ds.length ∧ k ≤ 80 ∧ Ros H r m l ∧ Agr l xs ∧ l.length ≤ k + 1 ∧
  F = [(0, .v (.sl ds.length 10 (ds.flatMap Deed.cs))), (3, .v (.ptr r 0)), (4, .v (sl xs)), (5, .v (.sc (.int .i64 k)))]
theorem playsLaw (ds : List Deed) : PFn Try.prog 10 [.sl ds.length 10 (ds.flatMap Deed.cs)] (.sc (.bool true)) := by
  have hD : V.closedL (ds.flatMap Deed.cs) = true := closed_flat (enc := Deed.cs) (fun _ => rfl) ds
  refine AFn.intro (fn := Try.f10) (by kernel_rfl) rfl (by kernel_rfl) (by simp) (AW.of mixed (by kernel_rfl) ?_)
  simp only [Try.f10, argsF]
  simp [aw_skip', aw_region', aw_seq', aw_cond', aw_block', aw_loop', aw_exit', aw_label', aw_ret', aops_nil', aops_cons', aop', aMove, aAssign, aPick, aAlloc, aBox, aBuild, aBuildSlice, aLoad, aLoadOwn, aStore, aNilCheck, aBin, aMakeFunc, aFieldAddr, aField, aIndexAddr, aExtract, aSliceOp, aSlice, aCallOp, aCall', aLen, aLenMap, aDelete, aMM, aUn, aConv, aIface, aAssert, aMakeMap, aLookup, aMapUpdate, aRange, aNext, aEntry, entsOf, keyB, lookV, aAppend, putK, layK, eval, evalV, AM.valOf, getF, putF, setF, del, SV.refers, cellsAt, rootSV, plains, shift, ldV, V.exact, V.exactL, V.ofValue, V.ofPart, V.ofCell, V.cells, V.one, Value.oneCell', fitB, qSeq, qBlock, getB, afin, aret, resVs, resV, resTmps, shareF, evalS, tupV, valsS, valsV, pickV, calm, calmB, lenV, useOf, feeds, looks, isT, newsV, partsV, fillV, putAt, zerosV, fitsNil, nilB, isEq, isNeq]
  refine callK.of (rnew []) ?_
  rintro y H1 ⟨r, m, rfl, h, _, _, _⟩
  simp [aw_skip', aw_region', aw_seq', aw_cond', aw_block', aw_loop', aw_exit', aw_label', aw_ret', aops_nil', aops_cons', aop', aMove, aAssign, aPick, aAlloc, aBox, aBuild, aBuildSlice, aLoad, aLoadOwn, aStore, aNilCheck, aBin, aMakeFunc, aFieldAddr, aField, aIndexAddr, aExtract, aSliceOp, aSlice, aCallOp, aCall', aLen, aLenMap, aDelete, aMM, aUn, aConv, aIface, aAssert, aMakeMap, aLookup, aMapUpdate, aRange, aNext, aEntry, entsOf, keyB, lookV, aAppend, putK, layK, eval, evalV, AM.valOf, getF, putF, setF, del, SV.refers, cellsAt, rootSV, plains, shift, ldV, V.exact, V.exactL, V.ofValue, V.ofPart, V.ofCell, V.cells, V.one, Value.oneCell', fitB, qSeq, qBlock, getB, afin, aret, resVs, resV, resTmps, shareF, evalS, tupV, valsS, valsV, pickV, calm, calmB, lenV, useOf, feeds, looks, isT, newsV, partsV, fillV, putAt, zerosV, fitsNil, nilB, isEq, isNeq]
  refine callK.pure refNew rfl (slClosed _) ?_
  simp [aw_skip', aw_region', aw_seq', aw_cond', aw_block', aw_loop', aw_exit', aw_label', aw_ret', aops_nil', aops_cons', aop', aMove, aAssign, aPick, aAlloc, aBox, aBuild, aBuildSlice, aLoad, aLoadOwn, aStore, aNilCheck, aBin, aMakeFunc, aFieldAddr, aField, aIndexAddr, aExtract, aSliceOp, aSlice, aCallOp, aCall', aLen, aLenMap, aDelete, aMM, aUn, aConv, aIface, aAssert, aMakeMap, aLookup, aMapUpdate, aRange, aNext, aEntry, entsOf, keyB, lookV, aAppend, putK, layK, eval, evalV, AM.valOf, getF, putF, setF, del, SV.refers, cellsAt, rootSV, plains, shift, ldV, V.exact, V.exactL, V.ofValue, V.ofPart, V.ofCell, V.cells, V.one, Value.oneCell', fitB, qSeq, qBlock, getB, afin, aret, resVs, resV, resTmps, shareF, evalS, tupV, valsS, valsV, pickV, calm, calmB, lenV, useOf, feeds, looks, isT, newsV, partsV, fillV, putAt, zerosV, fitsNil, nilB, isEq, isNeq]
  have hA0 : Agr [Me.chief] [Me.chief] := ⟨.refl _, by simp [rises], Me.chief, by simp, rfl⟩
  refine AW.loop (PL ds r m) ⟨_, _, ?_, 0, _, _, rfl, Nat.zero_le _, by omega, h, hA0, by simp, rfl⟩ ?_
  · simp [subF, getF]
  rintro n F H ⟨k, l, xs, rfl, hk1, hk8, g, ag, hlen, rfl⟩
  refine AW.of mixed (by kernel_rfl) ?_
  have hxl : xs.length = l.length := ag.perm.length_eq.symm
  by_cases hlt : k < ds.length ∧ k < 80
  · obtain ⟨hlt, h80⟩ := hlt
    have h80' : (k : Int) < 80 := by omega
    have r1 := row_flat (enc := Deed.cs) (sz := 10) (fun _ => rfl) hlt
    have w1 : IntKind.i64.wrap ((k : Int) + 1) = (k : Int) + 1 := by rw [wrap_i64] <;> omega
    obtain ⟨ag', hcode⟩ := ag.ok ds[k]
    have hW := wants xs ds[k] (by omega) ag.ne (fun x hx => find_user hx)
    have hD3 := does g ds[k]
    have hlen' := does_len l ds[k]
    have hxl' : (wantsR xs ds[k]).1.length = (doesR l ds[k]).1.length := ag'.perm.length_eq.symm
    simp [aw_skip', aw_region', aw_seq', aw_cond', aw_block', aw_loop', aw_exit', aw_label', aw_ret', aops_nil', aops_cons', aop', aMove, aAssign, aPick, aAlloc, aBox, aBuild, aBuildSlice, aLoad, aLoadOwn, aStore, aNilCheck, aBin, aMakeFunc, aFieldAddr, aField, aIndexAddr, aExtract, aSliceOp, aSlice, aCallOp, aCall', aLen, aLenMap, aDelete, aMM, aUn, aConv, aIface, aAssert, aMakeMap, aLookup, aMapUpdate, aRange, aNext, aEntry, entsOf, keyB, lookV, aAppend, putK, layK, eval, evalV, AM.valOf, getF, putF, setF, del, SV.refers, cellsAt, rootSV, plains, shift, ldV, V.exact, V.exactL, V.ofValue, V.ofPart, V.ofCell, V.cells, V.one, Value.oneCell', fitB, qSeq, qBlock, getB, afin, aret, resVs, resV, resTmps, shareF, evalS, tupV, valsS, valsV, pickV, calm, calmB, lenV, useOf, feeds, looks, isT, newsV, partsV, fillV, putAt, zerosV, fitsNil, nilB, isEq, isNeq, hlt, h80, h80', r1, Deed.cs, Me.cs]
    generalize wantsR xs ds[k] = wr at *
    obtain ⟨xs', e⟩ := wr
    refine callK.pure hW (by simp [V.closedL, V.closed, sl, Deed.v, Deed.cs, Me.cs, closed_flat (enc := Me.cs) (fun _ => rfl)]) (by simp [V.closed, V.closedL, slClosed]) ?_
    simp [aw_skip', aw_region', aw_seq', aw_cond', aw_block', aw_loop', aw_exit', aw_label', aw_ret', aops_nil', aops_cons', aop', aMove, aAssign, aPick, aAlloc, aBox, aBuild, aBuildSlice, aLoad, aLoadOwn, aStore, aNilCheck, aBin, aMakeFunc, aFieldAddr, aField, aIndexAddr, aExtract, aSliceOp, aSlice, aCallOp, aCall', aLen, aLenMap, aDelete, aMM, aUn, aConv, aIface, aAssert, aMakeMap, aLookup, aMapUpdate, aRange, aNext, aEntry, entsOf, keyB, lookV, aAppend, putK, layK, eval, evalV, AM.valOf, getF, putF, setF, del, SV.refers, cellsAt, rootSV, plains, shift, ldV, V.exact, V.exactL, V.ofValue, V.ofPart, V.ofCell, V.cells, V.one, Value.oneCell', fitB, qSeq, qBlock, getB, afin, aret, resVs, resV, resTmps, shareF, evalS, tupV, valsS, valsV, pickV, calm, calmB, lenV, useOf, feeds, looks, isT, newsV, partsV, fillV, putAt, zerosV, fitsNil, nilB, isEq, isNeq, hlt, r1, Deed.cs, Me.cs]
    refine callK.of hD3 ?_
    generalize doesR l ds[k] = dr at *
    obtain ⟨l', e'⟩ := dr
    simp only at hcode
    subst hcode
    rintro y H3 ⟨rfl, g3, k3⟩
    simp [aw_skip', aw_region', aw_seq', aw_cond', aw_block', aw_loop', aw_exit', aw_label', aw_ret', aops_nil', aops_cons', aop', aMove, aAssign, aPick, aAlloc, aBox, aBuild, aBuildSlice, aLoad, aLoadOwn, aStore, aNilCheck, aBin, aMakeFunc, aFieldAddr, aField, aIndexAddr, aExtract, aSliceOp, aSlice, aCallOp, aCall', aLen, aLenMap, aDelete, aMM, aUn, aConv, aIface, aAssert, aMakeMap, aLookup, aMapUpdate, aRange, aNext, aEntry, entsOf, keyB, lookV, aAppend, putK, layK, eval, evalV, AM.valOf, getF, putF, setF, del, SV.refers, cellsAt, rootSV, plains, shift, ldV, V.exact, V.exactL, V.ofValue, V.ofPart, V.ofCell, V.cells, V.one, Value.oneCell', fitB, qSeq, qBlock, getB, afin, aret, resVs, resV, resTmps, shareF, evalS, tupV, valsS, valsV, pickV, calm, calmB, lenV, useOf, feeds, looks, isT, newsV, partsV, fillV, putAt, zerosV, fitsNil, nilB, isEq, isNeq, hlt, r1, Deed.cs, Me.cs]
    have hF1 := find g3 ds[k].m.user
    have hF2 := refFind xs' ds[k].m.user (by simp only at hxl' hlen'; omega)
    rw [ag'.find] at hF1
    simp only at hF1
    generalize findR xs' ds[k].m.user = fx at *
    obtain ⟨x, fb⟩ := fx
    refine callK.of hF1 ?_
    rintro y H4 ⟨rfl, o4⟩
    have g4 := (o4.ros g3).app (L := [.cells (x.cs.map .v)])
    simp [aw_skip', aw_region', aw_seq', aw_cond', aw_block', aw_loop', aw_exit', aw_label', aw_ret', aops_nil', aops_cons', aop', aMove, aAssign, aPick, aAlloc, aBox, aBuild, aBuildSlice, aLoad, aLoadOwn, aStore, aNilCheck, aBin, aMakeFunc, aFieldAddr, aField, aIndexAddr, aExtract, aSliceOp, aSlice, aCallOp, aCall', aLen, aLenMap, aDelete, aMM, aUn, aConv, aIface, aAssert, aMakeMap, aLookup, aMapUpdate, aRange, aNext, aEntry, entsOf, keyB, lookV, aAppend, putK, layK, eval, evalV, AM.valOf, getF, putF, setF, del, SV.refers, cellsAt, rootSV, plains, shift, ldV, V.exact, V.exactL, V.ofValue, V.ofPart, V.ofCell, V.cells, V.one, Value.oneCell', fitB, qSeq, qBlock, getB, afin, aret, resVs, resV, resTmps, shareF, evalS, tupV, valsS, valsV, pickV, calm, calmB, lenV, useOf, feeds, looks, isT, newsV, partsV, fillV, putAt, zerosV, fitsNil, nilB, isEq, isNeq, hlt, r1, Deed.cs, Me.v, Me.cs, setLast]
    refine callK.pure hF2 (by simp [V.closedL, V.closed, slClosed]) (by simp [V.closed, V.closedL, Me.v, Me.cs]) ?_
    have hbx := app_len (H := H4) (b := .cells (x.cs.map .v))
    simp only [Me.cs, List.map_cons, List.map_nil] at g4 hbx
    revert g4 hbx
    generalize H4 ++ _ = H5
    generalize H4.length = bx
    intro g4 hbx
    have hbx' := fun L => get_app (L := L) hbx
    have hr5 := g4.r
    have hm5 := g4.m
    have hr5' := fun L => get_app (L := L) hr5
    simp [aw_skip', aw_region', aw_seq', aw_cond', aw_block', aw_loop', aw_exit', aw_label', aw_ret', aops_nil', aops_cons', aop', aMove, aAssign, aPick, aAlloc, aBox, aBuild, aBuildSlice, aLoad, aLoadOwn, aStore, aNilCheck, aBin, aMakeFunc, aFieldAddr, aField, aIndexAddr, aExtract, aSliceOp, aSlice, aCallOp, aCall', aLen, aLenMap, aDelete, aMM, aUn, aConv, aIface, aAssert, aMakeMap, aLookup, aMapUpdate, aRange, aNext, aEntry, entsOf, keyB, lookV, aAppend, putK, layK, eval, evalV, AM.valOf, getF, putF, setF, del, SV.refers, cellsAt, rootSV, plains, shift, ldV, V.exact, V.exactL, V.ofValue, V.ofPart, V.ofCell, V.cells, V.one, Value.oneCell', fitB, qSeq, qBlock, getB, afin, aret, resVs, resV, resTmps, shareF, evalS, tupV, valsS, valsV, pickV, calm, calmB, lenV, useOf, feeds, looks, isT, newsV, partsV, fillV, putAt, zerosV, fitsNil, nilB, isEq, isNeq, hlt, r1, Deed.cs, Me.v, Me.cs, setLast, hbx', eqMe, gMe, boolNe]
    refine callK.of (rlen (g4.app (L := [.cells (x.cs.map .v)]))) ?_
    rintro y H6 ⟨rfl, rfl⟩
    have hl' : xs'.length = l'.length := hxl'
    simp [aw_skip', aw_region', aw_seq', aw_cond', aw_block', aw_loop', aw_exit', aw_label', aw_ret', aops_nil', aops_cons', aop', aMove, aAssign, aPick, aAlloc, aBox, aBuild, aBuildSlice, aLoad, aLoadOwn, aStore, aNilCheck, aBin, aMakeFunc, aFieldAddr, aField, aIndexAddr, aExtract, aSliceOp, aSlice, aCallOp, aCall', aLen, aLenMap, aDelete, aMM, aUn, aConv, aIface, aAssert, aMakeMap, aLookup, aMapUpdate, aRange, aNext, aEntry, entsOf, keyB, lookV, aAppend, putK, layK, eval, evalV, AM.valOf, getF, putF, setF, del, SV.refers, cellsAt, rootSV, plains, shift, ldV, V.exact, V.exactL, V.ofValue, V.ofPart, V.ofCell, V.cells, V.one, Value.oneCell', fitB, qSeq, qBlock, getB, afin, aret, resVs, resV, resTmps, shareF, evalS, tupV, valsS, valsV, pickV, calm, calmB, lenV, useOf, feeds, looks, isT, newsV, partsV, fillV, putAt, zerosV, fitsNil, nilB, isEq, isNeq, sl, hl']
    refine ⟨_, ?_, _, ?_, k + 1, l', xs', rfl, by omega, by omega, ?_, ag', by simp only at hlen'; omega, rfl⟩
    · omega
    · simp [subF, getF, w1, sl, hl']
    · exact g4.app
  · have stop : ¬ k < ds.length ∨ (k < ds.length ∧ ¬ (k : Int) < 80 ∧ ¬ k < 80) := by omega
    have hl1 : l ≠ [] := by
      rintro rfl
      obtain ⟨y, hy, _⟩ := ag.chief
      have := ag.perm.mem_iff.2 hy
      cases this
    have hS := same xs xs (by omega)
    have hall := all g hl1 (by omega)
    rw [ag.all, ← hxl] at hall
    rcases stop with hlt' | ⟨hlt', n80, n80'⟩
    all_goals
      simp [aw_skip', aw_region', aw_seq', aw_cond', aw_block', aw_loop', aw_exit', aw_label', aw_ret', aops_nil', aops_cons', aop', aMove, aAssign, aPick, aAlloc, aBox, aBuild, aBuildSlice, aLoad, aLoadOwn, aStore, aNilCheck, aBin, aMakeFunc, aFieldAddr, aField, aIndexAddr, aExtract, aSliceOp, aSlice, aCallOp, aCall', aLen, aLenMap, aDelete, aMM, aUn, aConv, aIface, aAssert, aMakeMap, aLookup, aMapUpdate, aRange, aNext, aEntry, entsOf, keyB, lookV, aAppend, putK, layK, eval, evalV, AM.valOf, getF, putF, setF, del, SV.refers, cellsAt, rootSV, plains, shift, ldV, V.exact, V.exactL, V.ofValue, V.ofPart, V.ofCell, V.cells, V.one, Value.oneCell', fitB, qSeq, qBlock, getB, afin, aret, resVs, resV, resTmps, shareF, evalS, tupV, valsS, valsV, pickV, calm, calmB, lenV, useOf, feeds, looks, isT, newsV, partsV, fillV, putAt, zerosV, fitsNil, nilB, isEq, isNeq, *]
      refine callK.of hall ?_
      rintro y H3 ⟨rfl, o3⟩
      simp [aw_skip', aw_region', aw_seq', aw_cond', aw_block', aw_loop', aw_exit', aw_label', aw_ret', aops_nil', aops_cons', aop', aMove, aAssign, aPick, aAlloc, aBox, aBuild, aBuildSlice, aLoad, aLoadOwn, aStore, aNilCheck, aBin, aMakeFunc, aFieldAddr, aField, aIndexAddr, aExtract, aSliceOp, aSlice, aCallOp, aCall', aLen, aLenMap, aDelete, aMM, aUn, aConv, aIface, aAssert, aMakeMap, aLookup, aMapUpdate, aRange, aNext, aEntry, entsOf, keyB, lookV, aAppend, putK, layK, eval, evalV, AM.valOf, getF, putF, setF, del, SV.refers, cellsAt, rootSV, plains, shift, ldV, V.exact, V.exactL, V.ofValue, V.ofPart, V.ofCell, V.cells, V.one, Value.oneCell', fitB, qSeq, qBlock, getB, afin, aret, resVs, resV, resTmps, shareF, evalS, tupV, valsS, valsV, pickV, calm, calmB, lenV, useOf, feeds, looks, isT, newsV, partsV, fillV, putAt, zerosV, fitsNil, nilB, isEq, isNeq]
      refine callK.pure hS (by simp [V.closedL, slClosed, V.closed, closed_flat (enc := Me.cs) (fun _ => rfl)]) rfl ?_
      simp [aw_skip', aw_region', aw_seq', aw_cond', aw_block', aw_loop', aw_exit', aw_label', aw_ret', aops_nil', aops_cons', aop', aMove, aAssign, aPick, aAlloc, aBox, aBuild, aBuildSlice, aLoad, aLoadOwn, aStore, aNilCheck, aBin, aMakeFunc, aFieldAddr, aField, aIndexAddr, aExtract, aSliceOp, aSlice, aCallOp, aCall', aLen, aLenMap, aDelete, aMM, aUn, aConv, aIface, aAssert, aMakeMap, aLookup, aMapUpdate, aRange, aNext, aEntry, entsOf, keyB, lookV, aAppend, putK, layK, eval, evalV, AM.valOf, getF, putF, setF, del, SV.refers, cellsAt, rootSV, plains, shift, ldV, V.exact, V.exactL, V.ofValue, V.ofPart, V.ofCell, V.cells, V.one, Value.oneCell', fitB, qSeq, qBlock, getB, afin, aret, resVs, resV, resTmps, shareF, evalS, tupV, valsS, valsV, pickV, calm, calmB, lenV, useOf, feeds, looks, isT, newsV, partsV, fillV, putAt, zerosV, fitsNil, nilB, isEq, isNeq]
      refine callK.pure knownP rfl rfl ?_
      simp [aw_skip', aw_region', aw_seq', aw_cond', aw_block', aw_loop', aw_exit', aw_label', aw_ret', aops_nil', aops_cons', aop', aMove, aAssign, aPick, aAlloc, aBox, aBuild, aBuildSlice, aLoad, aLoadOwn, aStore, aNilCheck, aBin, aMakeFunc, aFieldAddr, aField, aIndexAddr, aExtract, aSliceOp, aSlice, aCallOp, aCall', aLen, aLenMap, aDelete, aMM, aUn, aConv, aIface, aAssert, aMakeMap, aLookup, aMapUpdate, aRange, aNext, aEntry, entsOf, keyB, lookV, aAppend, putK, layK, eval, evalV, AM.valOf, getF, putF, setF, del, SV.refers, cellsAt, rootSV, plains, shift, ldV, V.exact, V.exactL, V.ofValue, V.ofPart, V.ofCell, V.cells, V.one, Value.oneCell', fitB, qSeq, qBlock, getB, afin, aret, resVs, resV, resTmps, shareF, evalS, tupV, valsS, valsV, pickV, calm, calmB, lenV, useOf, feeds, looks, isT, newsV, partsV, fillV, putAt, zerosV, fitsNil, nilB, isEq, isNeq]
end Go.Proofs.Ythognfmmjkmjnaa
