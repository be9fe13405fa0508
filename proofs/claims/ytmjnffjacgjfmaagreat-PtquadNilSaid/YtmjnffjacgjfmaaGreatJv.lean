/- A quadtree of points that is not there; the law PtquadNil, over the abstract memory. -/
import Derived.Test.YtmjnffjacgjfmaaGreatJr
namespace Go.Proofs.YtmjnffjacgjfmaaGreat
set_option linter.all false
open Go.RowKit AM
set_option maxRecDepth 10000
attribute [local simp] aw_skip' aw_region' aw_seq' aw_cond' aw_block' aw_loop' aw_exit' aw_label' aw_ret' aops_nil' aops_cons' aop' aMove aAssign aPick aAlloc aBox aBuild slF aBuildSlice aLoad aLoadOwn aLoadS sharesAt shares sharedV aStore aStoreOwn isOwn delR aNilCheck aBin aMakeFunc aFieldAddr aField aIndexOp aIndex partV aIndexAddr aExtract aSliceOp aSlice slV aShrink aCallOp aCall' aInvoke' aLen aLenMap aDelete aMM aUn aConv aIface aAssert aMakeMap aLookup aMapUpdate aRange aNext aEntry entsOf keyB seekK aMakeSlice lookV aApp aAppendB aAppendF aAppend putK layK eval evalV AM.valOf getF putF setF del SV.refers cellsAt rootSV plains shift ldV V.exact V.exactL V.ofValue V.ofPart V.ofCell V.cells V.one Value.oneCell' fitB qSeq qBlock getB afin aret resVs resV resTmps shareF evalS tupV valsS valsV pickV calm calmB lenV useOf feeds shrinks stows looks isT newsV partsV fillV putAt zerosV fitsNil nilB sliceB isEq isNeq awx_skip' awx_region' awx_seq' awx_cond' awx_block' awx_loop' awx_exit' awx_label' awx_ret' xops_nil' xops_cons' xop' xload xcall' addO delO inO putD memB Mix.effB Mix.laysB keysF badK subW weakV zeroRow yops_nil' yops_cons' yop' yload yindex yfield ylen oldO dropO takeO oldL exactB
attribute [local simp] awz_skip' awz_region' awz_seq' awz_cond' awz_block' awz_loop' awz_exit' awz_label' awz_ret' zops_nil' zops_cons' zop' zload zloadOwn zcall' zlenK z0 new0 remF old0 dltB
/-- A tree that is not there. -/
def noP : V := .sc (.pointer none)
theorem pmade0 : PFn Tryz.prog 16 [noP] (.sc (.bool false)) := by
  unfold noP
  refine AFn.intro (fn := Tryz.f16) (by kernel_rfl) rfl (by kernel_rfl) (by simp) (AW.ofx [] mixed (by kernel_rfl) ?_)
  simp only [Tryz.f16, argsF]
  simp [nilPt]
theorem plen0 : PFn Tryz.prog 8 [noP] (.sc (.int .i64 0)) := by
  have hM := pmade0
  unfold noP at hM ⊢
  refine AFn.intro (fn := Tryz.f8) (by kernel_rfl) rfl (by kernel_rfl) (by simp) (AW.ofx [] mixed (by kernel_rfl) ?_)
  simp only [Tryz.f8, argsF]
  simp
  refine callK.pure hM rfl rfl ?_
  simp
theorem pnodes0 : PFn Tryz.prog 10 [noP] (.sc (.int .i64 0)) := by
  have hM := pmade0
  unfold noP at hM ⊢
  refine AFn.intro (fn := Tryz.f10) (by kernel_rfl) rfl (by kernel_rfl) (by simp) (AW.ofx [] mixed (by kernel_rfl) ?_)
  simp only [Tryz.f10, argsF]
  simp
  refine callK.pure hM rfl rfl ?_
  simp
theorem pdepth0 : PFn Tryz.prog 11 [noP] (.sc (.int .i64 0)) := by
  have hM := pmade0
  unfold noP at hM ⊢
  refine AFn.intro (fn := Tryz.f11) (by kernel_rfl) rfl (by kernel_rfl) (by simp) (AW.ofx [] mixed (by kernel_rfl) ?_)
  simp only [Tryz.f11, argsF]
  simp
  refine callK.pure hM rfl rfl ?_
  simp
theorem pcount0 (r : Re) : PFn Tryz.prog 9 [noP, r.v] (.sc (.int .i64 0)) := by
  have hM := pmade0
  unfold noP at hM ⊢
  unfold Re.v Re.cs
  refine AFn.intro (fn := Tryz.f9) (by kernel_rfl) rfl (by kernel_rfl) (by simp) (AW.ofx [] mixed (by kernel_rfl) ?_)
  simp only [Tryz.f9, argsF]
  simp
  refine callK.pure hM rfl rfl ?_
  simp
theorem pwindow0 (r : Re) : PFn Tryz.prog 13 [noP, r.v] (.nil) := by
  have hM := pmade0
  unfold noP at hM ⊢
  unfold Re.v Re.cs
  refine AFn.intro (fn := Tryz.f13) (by kernel_rfl) rfl (by kernel_rfl) (by simp) (AW.ofx [] mixed (by kernel_rfl) ?_)
  simp only [Tryz.f13, argsF]
  simp
  refine callK.pure hM rfl rfl ?_
  simp
theorem pinsert0 (s : Pr) : PFn Tryz.prog 5 [noP, s.v] (.sc (.int .i64 3)) := by
  have hM := pmade0
  unfold noP at hM ⊢
  unfold Pr.v Pr.cs
  refine AFn.intro (fn := Tryz.f5) (by kernel_rfl) rfl (by kernel_rfl) (by simp) (AW.ofx [(5, 12, [0, 3])] mixed (by kernel_rfl) ?_)
  simp only [Tryz.f5, argsF]
  simp
  refine callK.pure hM rfl rfl ?_
  simp
theorem pchange0 (s : Pr) : PFn Tryz.prog 7 [noP, s.v] (.sc (.int .i64 3)) := by
  have hM := pmade0
  unfold noP at hM ⊢
  unfold Pr.v Pr.cs
  refine AFn.intro (fn := Tryz.f7) (by kernel_rfl) rfl (by kernel_rfl) (by simp) (AW.ofx [] mixed (by kernel_rfl) ?_)
  simp only [Tryz.f7, argsF]
  simp
  refine callK.pure hM rfl rfl ?_
  simp
theorem pdelete0 (k : Int) : PFn Tryz.prog 6 [noP, .sc (.int .i64 k)] (.sc (.int .i64 3)) := by
  have hM := pmade0
  unfold noP at hM ⊢
  refine AFn.intro (fn := Tryz.f6) (by kernel_rfl) rfl (by kernel_rfl) (by simp) (AW.ofx [] mixed (by kernel_rfl) ?_)
  simp only [Tryz.f6, argsF]
  simp
  refine callK.pure hM rfl rfl ?_
  simp
theorem pfind0 (k : Int) : PFn Tryz.prog 4 [noP, .sc (.int .i64 k)] (.tup [zeroP.v, .sc (.bool false)]) := by
  have hM := pmade0
  unfold noP at hM ⊢
  unfold zeroP Pr.v Pr.cs
  refine AFn.intro (fn := Tryz.f4) (by kernel_rfl) rfl (by kernel_rfl) (by simp) (AW.ofx [] mixed (by kernel_rfl) ?_)
  simp only [Tryz.f4, argsF]
  simp
  refine callK.pure hM rfl rfl ?_
  simp [setCells, setBlk]
theorem pnear0 (x y n l : Int) : PFn Tryz.prog 14 [noP, .agg [.sc (.int .i64 x), .sc (.int .i64 y)], .sc (.int .i64 n), .sc (.int .i64 l), .sc .nilFunc] (.nil) := by
  have hM := pmade0
  unfold noP at hM ⊢
  refine AFn.intro (fn := Tryz.f14) (by kernel_rfl) rfl (by kernel_rfl) (by simp) ?_
  simp only [Tryz.f14, argsF]
  refine AW.seq (AW.ofx [] mixed (by kernel_rfl) ?_)
  simp
  refine AW.scope ?_
  refine AW.seq ?_
  refine AW.seq (AW.ofx [] mixed (by kernel_rfl) ?_)
  simp
  refine callK.pure hM rfl rfl ?_
  simp
  refine AW.cond true (by simp) (fun _ => ?_) (fun e => by cases e)
  refine AW.seq (AW.ofx [] mixed (by kernel_rfl) ?_)
  simp
  refine AW.ofx [] mixed (by kernel_rfl) ?_
  simp
  simp [qScope, aw_skip', aw_region', aw_seq', aw_cond', aw_block', aw_loop', aw_exit', aw_label', aw_ret', aops_nil', aops_cons', aop', aMove, aAssign, aPick, aAlloc, aBox, aBuild, slF, aBuildSlice, aLoad, aLoadOwn, aLoadS, sharesAt, shares, sharedV, aStore, aStoreOwn, isOwn, delR, aNilCheck, aBin, aMakeFunc, aFieldAddr, aField, aIndexOp, aIndex, partV, aIndexAddr, aExtract, aSliceOp, aSlice, slV, aShrink, aCallOp, aCall', aInvoke', aLen, aLenMap, aDelete, aMM, aUn, aConv, aIface, aAssert, aMakeMap, aLookup, aMapUpdate, aRange, aNext, aEntry, entsOf, keyB, seekK, aMakeSlice, lookV, aApp, aAppendB, aAppendF, aAppend, putK, layK, eval, evalV, AM.valOf, getF, putF, setF, del, SV.refers, cellsAt, rootSV, plains, shift, ldV, V.exact, V.exactL, V.ofValue, V.ofPart, V.ofCell, V.cells, V.one, Value.oneCell', fitB, qSeq, qBlock, getB, afin, aret, resVs, resV, resTmps, shareF, evalS, tupV, valsS, valsV, pickV, calm, calmB, lenV, useOf, feeds, shrinks, stows, looks, isT, newsV, partsV, fillV, putAt, zerosV, fitsNil, nilB, sliceB, isEq, isNeq, awx_skip', awx_region', awx_seq', awx_cond', awx_block', awx_loop', awx_exit', awx_label', awx_ret', xops_nil', xops_cons', xop', xload, xcall', addO, delO, inO, putD, memB, Mix.effB, Mix.laysB, keysF, badK, subW, weakV, zeroRow, yops_nil', yops_cons', yop', yload, yindex, yfield, ylen, oldO, dropO, takeO, oldL, exactB]
theorem pall0 : PFn Tryz.prog 12 [noP] .nil := by
  have hF := pwindow0 gridR
  have hG := gGrid
  unfold noP at hF ⊢
  unfold gridR Re.v Re.cs at hF hG
  refine AFn.intro (fn := Tryz.f12) (by kernel_rfl) rfl (by kernel_rfl) (by simp) (AW.ofx [] mixed (by kernel_rfl) ?_)
  simp only [Tryz.f12, argsF]
  simp
  refine callK.pure hG rfl rfl ?_
  simp
  refine callK.pure hF rfl rfl ?_
  simp
theorem eqPr0 : eqT Tryz.prog 10 25 (.agg #[.int .i64 0, .int .i64 0, .int .i64 0, .int .i64 0]) (.agg #[.int .i64 0, .int .i64 0, .int .i64 0, .int .i64 0]) = some true := by kernel_rfl
set_option maxHeartbeats 2000000 in
theorem lawNilP (s : Pr) (r : Re) (n : Int) (H : List Bk) : AFn Tryz.prog 3 [s.v, r.v, .sc (.int .i64 n)] H fun y _ => y = .sc (.bool true) := by
  have a1 := pfind0 s.id
  have a2 := pinsert0 s
  have a3 := pdelete0 s.id
  have a4 := pchange0 s
  have a5 := plen0
  have a6 := pcount0 r
  have a7 := pnodes0
  have a8 := pdepth0
  have a9 := pall0
  have a10 := pwindow0 r
  have a11 := pnear0 s.at_.x s.at_.y n 16
  have a12 := fun H => lknownP H
  have w0 : IntKind.i64.wrap 0 = 0 := by rw [wrap_i64] <;> omega
  unfold noP at a1 a2 a3 a4 a5 a6 a7 a8 a9 a10 a11
  unfold zeroP Pr.v Pr.cs at a1
  unfold Pr.v Pr.cs at a2 a4
  unfold Re.v Re.cs at a6 a10
  unfold Pr.v Pr.cs Re.v Re.cs
  refine AFn.intro (fn := Tryz.f3) (by kernel_rfl) rfl (by kernel_rfl) (by simp) ?_
  simp only [Tryz.f3, argsF]
  refine AW.seq (AW.ofx [(3, 56, [7, 3, 9, 8, 4, 2])] mixed (by kernel_rfl) ?_)
  simp
  refine AW.seq (AW.ofx [(3, 56, [7, 3, 9, 8, 4, 2])] mixed (by kernel_rfl) ?_)
  simp
  refine AW.seq (AW.ofx [(3, 56, [7, 3, 9, 8, 4, 2])] mixed (by kernel_rfl) ?_)
  simp
  refine callK.pure a1 rfl rfl ?_
  simp [setCells, setBlk]
  refine AW.ofx [(3, 56, [7, 3, 9, 8, 4, 2])] mixed (by kernel_rfl) ?_
  simp
  refine callK.pure a2 rfl rfl ?_
  simp
  refine callK.pure a3 rfl rfl ?_
  simp
  refine callK.pure a4 rfl rfl ?_
  simp [eqPr0]
  refine callK.pure a5 rfl rfl ?_
  simp
  refine callK.pure a6 rfl rfl ?_
  simp [w0]
  refine callK.pure a7 rfl rfl ?_
  simp [w0]
  refine callK.pure a8 rfl rfl ?_
  simp [w0]
  refine callK.pure a9 rfl rfl ?_
  simp [w0]
  refine callK.pure a10 rfl rfl ?_
  simp [w0]
  refine callK.pure a11 rfl rfl ?_
  simp [w0]
  refine callK.of (a12 _) ?_
  rintro y H1 ⟨rfl, k1⟩
  simp
theorem lawNilP0 (s : Pr) (r : Re) (n : Int) : PFn Tryz.prog 3 [s.v, r.v, .sc (.int .i64 n)] (.sc (.bool true)) := lawNilP s r n []
end Go.Proofs.YtmjnffjacgjfmaaGreat
