/- The law CifquadNil, over the abstract memory. -/
import Derived.Test.YtdeemchhbgomjaaGreatIa
namespace Go.Proofs.YtdeemchhbgomjaaGreat
set_option linter.all false
open Go.RowKit AM
set_option maxRecDepth 10000
attribute [local simp] aw_skip' aw_region' aw_seq' aw_cond' aw_block' aw_loop' aw_exit' aw_label' aw_ret' aops_nil' aops_cons' aop' aMove aAssign aPick aAlloc aBox aBuild slF aBuildSlice aLoad aLoadOwn aStore aStoreOwn isOwn delR aNilCheck aBin aMakeFunc aFieldAddr aField aIndexOp aIndex partV aIndexAddr aExtract aSliceOp aSlice aShrink aCallOp aCall' aInvoke' aLen aLenMap aDelete aMM aUn aConv aIface aAssert aMakeMap aLookup aMapUpdate aRange aNext aEntry entsOf keyB seekK aMakeSlice lookV aAppend putK layK eval evalV AM.valOf getF putF setF del SV.refers cellsAt rootSV plains shift ldV V.exact V.exactL V.ofValue V.ofPart V.ofCell V.cells V.one Value.oneCell' fitB qSeq qBlock getB afin aret resVs resV resTmps shareF evalS tupV valsS valsV pickV calm calmB lenV useOf feeds shrinks stows looks isT newsV partsV fillV putAt zerosV fitsNil nilB sliceB isEq isNeq awx_skip' awx_region' awx_seq' awx_cond' awx_block' awx_loop' awx_exit' awx_label' awx_ret' xops_nil' xops_cons' xop' xload xcall' addO delO inO putD memB Mix.effB Mix.laysB keysF badK subW weakV zeroRow yops_nil' yops_cons' yop' yload yindex yfield ylen oldO dropO takeO oldL exactB
attribute [local simp] awz_skip' awz_region' awz_seq' awz_cond' awz_block' awz_loop' awz_exit' awz_label' awz_ret' zops_nil' zops_cons' zop' zload zloadOwn zcall' z0 new0 remF old0 dltB

theorem eqSh0 : eqT Tryz.prog 10 32 (.agg #[.int .i64 0, .int .i64 0, .int .i64 0, .int .i64 0, .int .i64 0, .int .i64 0]) (.agg #[.int .i64 0, .int .i64 0, .int .i64 0, .int .i64 0, .int .i64 0, .int .i64 0]) = some true := by kernel_rfl
set_option maxHeartbeats 2000000 in
theorem lawNil (s : Sh) (r : Re) (n : Int) (H : List Bk) : AFn Tryz.prog 5 [s.v, r.v, .sc (.int .i64 n)] H fun y _ => y = .sc (.bool true) := by
  have a1 := nfind0 s.id
  have a2 := nput0 s
  have a3 := ntake0 s.id
  have a4 := nlen
  have a5 := nnodes0
  have a6 := nunder ⟨0, 0, 0⟩
  have a7 := nall
  have a8 := nmeets r
  have a9 := nwithin r
  have a10 := nnear 0 0 n 16
  have a11 := fun H => lknown H
  have w0 : IntKind.i64.wrap 0 = 0 := by rw [wrap_i64] <;> omega
  unfold noT at a1 a2 a3 a4 a5 a6 a7 a8 a9 a10
  unfold Sh.zero Sh.v Sh.cs at a1
  unfold Sh.v Sh.cs at a2
  unfold Ce.v Ce.cs at a6
  unfold Re.v Re.cs at a8 a9
  unfold Sh.v Sh.cs Re.v Re.cs
  refine AFn.intro (fn := Tryz.f5) (by kernel_rfl) rfl (by kernel_rfl) (by simp) ?_
  simp only [Tryz.f5, argsF]
  refine AW.seq (AW.ofx [(3, 51, [7, 3, 9, 8, 4, 2])] mixed (by kernel_rfl) ?_)
  simp
  refine AW.seq (AW.ofx [(3, 51, [7, 3, 9, 8, 4, 2])] mixed (by kernel_rfl) ?_)
  simp
  refine AW.seq (AW.ofx [(3, 51, [7, 3, 9, 8, 4, 2])] mixed (by kernel_rfl) ?_)
  simp
  refine callK.pure a1 rfl rfl ?_
  simp [setCells, setBlk]
  refine AW.ofx [(3, 51, [7, 3, 9, 8, 4, 2])] mixed (by kernel_rfl) ?_
  simp
  refine callK.pure a2 rfl rfl ?_
  simp
  refine callK.pure a3 rfl rfl ?_
  simp [eqSh0]
  refine callK.pure a4 rfl rfl ?_
  simp
  refine callK.pure a5 rfl rfl ?_
  simp
  refine callK.pure a6 rfl rfl ?_
  simp [w0]
  refine callK.pure a7 rfl rfl ?_
  simp [w0]
  refine callK.pure a8 rfl rfl ?_
  simp [w0]
  refine callK.pure a9 rfl rfl ?_
  simp [w0]
  refine callK.pure a10 rfl rfl ?_
  simp [w0]
  refine callK.of (a11 _) ?_
  rintro y H1 ⟨rfl, k1⟩
  simp
theorem lawNil0 (s : Sh) (r : Re) (n : Int) : PFn Tryz.prog 5 [s.v, r.v, .sc (.int .i64 n)] (.sc (.bool true)) := lawNil s r n []
end Go.Proofs.YtdeemchhbgomjaaGreat
