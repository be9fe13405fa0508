/- A quadtree that is not there; the law CifquadNil, over the abstract memory. -/
import Derived.Test.YtdeemchhbgomjaaGreatHp
namespace Go.Proofs.YtdeemchhbgomjaaGreat
set_option linter.all false
open Go.RowKit AM
set_option maxRecDepth 10000
attribute [local simp] aw_skip' aw_region' aw_seq' aw_cond' aw_block' aw_loop' aw_exit' aw_label' aw_ret' aops_nil' aops_cons' aop' aMove aAssign aPick aAlloc aBox aBuild slF aBuildSlice aLoad aLoadOwn aStore aStoreOwn isOwn delR aNilCheck aBin aMakeFunc aFieldAddr aField aIndexOp aIndex partV aIndexAddr aExtract aSliceOp aSlice aShrink aCallOp aCall' aInvoke' aLen aLenMap aDelete aMM aUn aConv aIface aAssert aMakeMap aLookup aMapUpdate aRange aNext aEntry entsOf keyB seekK aMakeSlice lookV aAppend putK layK eval evalV AM.valOf getF putF setF del SV.refers cellsAt rootSV plains shift ldV V.exact V.exactL V.ofValue V.ofPart V.ofCell V.cells V.one Value.oneCell' fitB qSeq qBlock getB afin aret resVs resV resTmps shareF evalS tupV valsS valsV pickV calm calmB lenV useOf feeds shrinks stows looks isT newsV partsV fillV putAt zerosV fitsNil nilB sliceB isEq isNeq awx_skip' awx_region' awx_seq' awx_cond' awx_block' awx_loop' awx_exit' awx_label' awx_ret' xops_nil' xops_cons' xop' xload xcall' addO delO inO putD memB Mix.effB Mix.laysB keysF badK subW weakV zeroRow yops_nil' yops_cons' yop' yload yindex yfield ylen oldO dropO takeO oldL exactB
attribute [local simp] awz_skip' awz_region' awz_seq' awz_cond' awz_block' awz_loop' awz_exit' awz_label' awz_ret' zops_nil' zops_cons' zop' zload zloadOwn zcall' zlenK z0 new0 remF old0 dltB

/-- A tree that is not there. -/
def noT : V := .sc (.pointer none)
theorem hNilT0 {x y : Operand} : binR Tryz.prog .neq 25 x y (.pointer none) (.pointer none) = some (.bool false) := by kernel_rfl
theorem nmade : PFn Tryz.prog 26 [noT] (.sc (.bool false)) := by
  unfold noT
  refine AFn.intro (fn := Tryz.f26) (by kernel_rfl) rfl (by kernel_rfl) (by simp) (AW.ofx [] mixed (by kernel_rfl) ?_)
  simp only [Tryz.f26, argsF]
  simp [hNilT0]
theorem nlen : PFn Tryz.prog 16 [noT] (.sc (.int .i64 0)) := by
  have hM := nmade
  unfold noT at hM ⊢
  refine AFn.intro (fn := Tryz.f16) (by kernel_rfl) rfl (by kernel_rfl) (by simp) (AW.ofx [] mixed (by kernel_rfl) ?_)
  simp only [Tryz.f16, argsF]
  simp
  refine callK.pure hM rfl rfl ?_
  simp
theorem nnodes0 : PFn Tryz.prog 17 [noT] (.sc (.int .i64 0)) := by
  have hM := nmade
  unfold noT at hM ⊢
  refine AFn.intro (fn := Tryz.f17) (by kernel_rfl) rfl (by kernel_rfl) (by simp) (AW.ofx [] mixed (by kernel_rfl) ?_)
  simp only [Tryz.f17, argsF]
  simp
  refine callK.pure hM rfl rfl ?_
  simp
theorem nunder (c : Ce) : PFn Tryz.prog 18 [noT, c.v] (.sc (.int .i64 0)) := by
  have hM := nmade
  unfold noT at hM ⊢
  unfold Ce.v Ce.cs
  refine AFn.intro (fn := Tryz.f18) (by kernel_rfl) rfl (by kernel_rfl) (by simp) (AW.ofx [(5, 9, [5, 3])] mixed (by kernel_rfl) ?_)
  simp only [Tryz.f18, argsF]
  simp
  refine callK.pure hM rfl rfl ?_
  simp
theorem nput0 (s : Sh) : PFn Tryz.prog 14 [noT, s.v] (.sc (.int .i64 3)) := by
  have hM := nmade
  unfold noT at hM ⊢
  unfold Sh.v Sh.cs
  refine AFn.intro (fn := Tryz.f14) (by kernel_rfl) rfl (by kernel_rfl) (by simp) (AW.ofx [] mixed (by kernel_rfl) ?_)
  simp only [Tryz.f14, argsF]
  simp
  refine callK.pure hM rfl rfl ?_
  simp
theorem ntake0 (k : Int) : PFn Tryz.prog 15 [noT, .sc (.int .i64 k)] (.sc (.int .i64 3)) := by
  have hM := nmade
  unfold noT at hM ⊢
  refine AFn.intro (fn := Tryz.f15) (by kernel_rfl) rfl (by kernel_rfl) (by simp) (AW.ofx [] mixed (by kernel_rfl) ?_)
  simp only [Tryz.f15, argsF]
  simp
  refine callK.pure hM rfl rfl ?_
  simp
theorem nfind0 (k : Int) : PFn Tryz.prog 13 [noT, .sc (.int .i64 k)] (.tup [Sh.zero.v, .sc (.bool false)]) := by
  have hM := nmade
  unfold noT at hM ⊢
  unfold Sh.zero Sh.v Sh.cs
  refine AFn.intro (fn := Tryz.f13) (by kernel_rfl) rfl (by kernel_rfl) (by simp) (AW.ofx [] mixed (by kernel_rfl) ?_)
  simp only [Tryz.f13, argsF]
  simp
  refine callK.pure hM rfl rfl ?_
  simp [setCells, setBlk]
theorem nfound (f : FuncId) (first cap : List V) (r : Re) (H : List Bk) : AFn Tryz.prog 42 [noT, r.v, .fn (.func f) first cap] H fun y H' => y = .nil := by
  have hM := nmade
  unfold noT at hM ⊢
  unfold Re.v Re.cs
  refine AFn.intro (fn := Tryz.f42) (by kernel_rfl) rfl (by kernel_rfl) (by simp) (AW.ofx [] mixed (by kernel_rfl) ?_)
  simp only [Tryz.f42, argsF]
  simp
  refine callK.pure hM rfl rfl ?_
  simp
theorem nall : PFn Tryz.prog 19 [noT] .nil := by
  have hF := fun H => nfound 44 [] [] gridR H
  have hG := gGrid
  unfold noT at hF ⊢
  unfold gridR Re.v Re.cs at hF hG
  refine AFn.intro (fn := Tryz.f19) (by kernel_rfl) rfl (by kernel_rfl) (by simp) (AW.ofx [] mixed (by kernel_rfl) ?_)
  simp only [Tryz.f19, argsF]
  simp
  refine callK.pure hG rfl rfl ?_
  simp
  refine callK.of (hF _) ?_
  rintro y H1 rfl
  simp
theorem nmeets (r : Re) : PFn Tryz.prog 20 [noT, r.v] .nil := by
  have hF := fun c H => nfound 45 [] c r H
  unfold noT at hF ⊢
  unfold Re.v Re.cs at hF ⊢
  refine AFn.intro (fn := Tryz.f20) (by kernel_rfl) rfl (by kernel_rfl) (by simp) (AW.ofx [] mixed (by kernel_rfl) ?_)
  simp only [Tryz.f20, argsF]
  simp
  refine callK.of (hF _ _) ?_
  rintro y H1 rfl
  simp
theorem nwithin (r : Re) : PFn Tryz.prog 21 [noT, r.v] .nil := by
  have hF := fun c H => nfound 47 [] c r H
  unfold noT at hF ⊢
  unfold Re.v Re.cs at hF ⊢
  refine AFn.intro (fn := Tryz.f21) (by kernel_rfl) rfl (by kernel_rfl) (by simp) (AW.ofx [] mixed (by kernel_rfl) ?_)
  simp only [Tryz.f21, argsF]
  simp
  refine callK.of (hF _ _) ?_
  rintro y H1 rfl
  simp
theorem nnear (x y n l : Int) : PFn Tryz.prog 9 [noT, .agg [.sc (.int .i64 x), .sc (.int .i64 y)], .sc (.int .i64 n), .sc (.int .i64 l), .sc .nilFunc] .nil := by
  have hM := nmade
  unfold noT at hM ⊢
  refine AFn.intro (fn := Tryz.f9) (by kernel_rfl) rfl (by kernel_rfl) (by simp) (AW.ofx [(3, 5, [0, 6, 3, 4])] mixed (by kernel_rfl) ?_)
  simp only [Tryz.f9, argsF]
  simp
  refine callK.pure hM rfl rfl ?_
  simp
end Go.Proofs.YtdeemchhbgomjaaGreat
