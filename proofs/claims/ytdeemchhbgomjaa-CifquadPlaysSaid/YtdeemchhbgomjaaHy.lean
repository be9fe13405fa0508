/- The document's Meet: its regions leave an order open. -/
import Derived.Test.YtdeemchhbgomjaaBg
import Derived.Test.YtdeemchhbgomjaaHz
import Derived.Test.YtdeemchhbgomjaaBh
namespace Go.Proofs.Ytdeemchhbgomjaa
set_option linter.all false
open Go.RowKit AM
set_option maxRecDepth 10000
attribute [local simp] aw_skip' aw_region' aw_seq' aw_cond' aw_block' aw_loop' aw_exit' aw_label' aw_ret' aops_nil' aops_cons' aop' aMove aAssign aPick aAlloc aBox aBuild slF aBuildSlice aLoad aLoadOwn aStore aStoreOwn isOwn delR aNilCheck aBin aMakeFunc aFieldAddr aField aIndexOp aIndex partV aIndexAddr aExtract aSliceOp aSlice aShrink aCallOp aCall' aInvoke' aLen aLenMap aDelete aMM aUn aConv aIface aAssert aMakeMap aLookup aMapUpdate aRange aNext aEntry entsOf keyB seekK aMakeSlice lookV aAppend putK layK eval evalV AM.valOf getF putF setF del SV.refers cellsAt rootSV plains shift ldV V.exact V.exactL V.ofValue V.ofPart V.ofCell V.cells V.one Value.oneCell' fitB qSeq qBlock getB afin aret resVs resV resTmps shareF evalS tupV valsS valsV pickV calm calmB lenV useOf feeds shrinks stows looks isT newsV partsV fillV putAt zerosV fitsNil nilB sliceB isEq isNeq awx_skip' awx_region' awx_seq' awx_cond' awx_block' awx_loop' awx_exit' awx_label' awx_ret' xops_nil' xops_cons' xop' xload xcall' addO delO inO putD memB Mix.effB Mix.laysB keysF badK subW weakV zeroRow yops_nil' yops_cons' yop' yload yindex yfield ylen oldO dropO takeO oldL exactB
attribute [local simp] awz_skip' awz_region' awz_seq' awz_cond' awz_block' awz_loop' awz_exit' awz_label' awz_ret' zops_nil' zops_cons' zop' zload zloadOwn zcall' z0 new0 remF old0 dltB

def MtI (a b : Re) (F : Fr) (H : List Bk) : Prop := F = [(2, .v (.ptr 0 0)), (3, .v (.ptr 1 0)), (4, .v (.ptr 2 0)), (5, .v (.sc (.bool false))), (6, .v (.ptr 3 0))] ∧ H = [reB a, reB b, reB reZ, reB (meetB a b)]
theorem meets_bool (a b : Re) : meetsR a b = (rightR a && (rightR b && rightR (meetB a b))) := by
  cases ha : rightR a with
  | false => simp [meetsR, ha]
  | true =>
    cases hb : rightR b with
    | false => simp [meetsR, ha, hb]
    | true => simp [meets_right ha hb]
set_option maxHeartbeats 8000000 in
theorem refMeet (a b : Re) : PFn Try.prog 46 [a.v, b.v] (meetV a b) := by
  have h1 := refMore a.x0 b.x0
  have h2 := refMore a.y0 b.y0
  have h3 := refLess a.x1 b.x1
  have h4 := refLess a.y1 b.y1
  have r1 := refRightR a
  have r2 := refRightR b
  have r3 := refRightR (meetB a b)
  unfold Re.v Re.cs at r1 r2 r3 ⊢
  refine AFn.intro (fn := Try.f46) (by kernel_rfl) rfl (by kernel_rfl) (by simp) ?_
  simp only [Try.f46, argsF]
  refine AW.seq (AW.off [] [(1, 21, 22, [2, 3])] mixed (by kernel_rfl) ?_)
  simp [awf_skip', awf_region', awf_seq', awf_cond', awf_block', awf_loop', awf_exit', awf_label', awf_ret', flK, floatY', yopsB_nil', yopsB_cons', ystep', setCells, setBlk]
  refine AW.mid (MtI a b) (AW.off [] [(1, 21, 22, [2, 3])] mixed (by kernel_rfl) ?_) ?_
  · have k3 := fun x y z w : Bk => keepS_app (H := [x, y, z]) (L := [w])
    simp only [List.cons_append, List.nil_append] at k3
    simp [awf_skip', awf_region', awf_seq', awf_cond', awf_block', awf_loop', awf_exit', awf_label', awf_ret', flK, floatY', yopsB_nil', yopsB_cons', ystep', setCells, setBlk, k3]
    refine ⟨callK.pure h1 rfl rfl ?_, callK.pure h1 rfl rfl ?_⟩
    rotate_left
    · simp [awf_skip', awf_region', awf_seq', awf_cond', awf_block', awf_loop', awf_exit', awf_label', awf_ret', flK, floatY', yopsB_nil', yopsB_cons', ystep', setCells, setBlk, k3]
      refine callK.pure h2 rfl rfl ?_
      simp [awf_skip', awf_region', awf_seq', awf_cond', awf_block', awf_loop', awf_exit', awf_label', awf_ret', flK, floatY', yopsB_nil', yopsB_cons', ystep', setCells, setBlk, k3]
      refine callK.pure h3 rfl rfl ?_
      simp [awf_skip', awf_region', awf_seq', awf_cond', awf_block', awf_loop', awf_exit', awf_label', awf_ret', flK, floatY', yopsB_nil', yopsB_cons', ystep', setCells, setBlk, k3]
      refine callK.pure h4 rfl rfl ?_
      simp [awf_skip', awf_region', awf_seq', awf_cond', awf_block', awf_loop', awf_exit', awf_label', awf_ret', flK, floatY', yopsB_nil', yopsB_cons', ystep', setCells, setBlk, k3]
      refine ⟨_, ?_, rfl, rfl⟩
      simp [subW, weakV, getF]
    simp [awf_skip', awf_region', awf_seq', awf_cond', awf_block', awf_loop', awf_exit', awf_label', awf_ret', flK, floatY', yopsB_nil', yopsB_cons', ystep', setCells, setBlk, k3]
    refine ⟨callK.pure h2 rfl rfl ?_, callK.pure h2 rfl rfl ?_⟩
    rotate_left
    · simp [awf_skip', awf_region', awf_seq', awf_cond', awf_block', awf_loop', awf_exit', awf_label', awf_ret', flK, floatY', yopsB_nil', yopsB_cons', ystep', setCells, setBlk, k3]
      refine callK.pure h3 rfl rfl ?_
      simp [awf_skip', awf_region', awf_seq', awf_cond', awf_block', awf_loop', awf_exit', awf_label', awf_ret', flK, floatY', yopsB_nil', yopsB_cons', ystep', setCells, setBlk, k3]
      refine callK.pure h4 rfl rfl ?_
      simp [awf_skip', awf_region', awf_seq', awf_cond', awf_block', awf_loop', awf_exit', awf_label', awf_ret', flK, floatY', yopsB_nil', yopsB_cons', ystep', setCells, setBlk, k3]
      refine ⟨_, ?_, rfl, rfl⟩
      simp [subW, weakV, getF]
    simp [awf_skip', awf_region', awf_seq', awf_cond', awf_block', awf_loop', awf_exit', awf_label', awf_ret', flK, floatY', yopsB_nil', yopsB_cons', ystep', setCells, setBlk, k3]
    refine ⟨callK.pure h3 rfl rfl ?_, callK.pure h3 rfl rfl ?_⟩
    rotate_left
    · simp [awf_skip', awf_region', awf_seq', awf_cond', awf_block', awf_loop', awf_exit', awf_label', awf_ret', flK, floatY', yopsB_nil', yopsB_cons', ystep', setCells, setBlk, k3]
      refine callK.pure h4 rfl rfl ?_
      simp [awf_skip', awf_region', awf_seq', awf_cond', awf_block', awf_loop', awf_exit', awf_label', awf_ret', flK, floatY', yopsB_nil', yopsB_cons', ystep', setCells, setBlk, k3]
      refine ⟨_, ?_, rfl, rfl⟩
      simp [subW, weakV, getF]
    simp [awf_skip', awf_region', awf_seq', awf_cond', awf_block', awf_loop', awf_exit', awf_label', awf_ret', flK, floatY', yopsB_nil', yopsB_cons', ystep', setCells, setBlk, k3]
    refine ⟨callK.pure h4 rfl rfl ?_, callK.pure h4 rfl rfl ?_⟩
    all_goals
      simp [awf_skip', awf_region', awf_seq', awf_cond', awf_block', awf_loop', awf_exit', awf_label', awf_ret', flK, floatY', yopsB_nil', yopsB_cons', ystep', setCells, setBlk, k3]
      refine ⟨_, ?_, rfl, rfl⟩
      simp [subW, weakV, getF]
  · rintro F H ⟨rfl, rfl⟩
    unfold meetV meetP
    rw [meets_bool]
    unfold Re.v Re.cs reB
    refine AW.off [] [(1, 21, 22, [2, 3])] mixed (by kernel_rfl) ?_
    cases ha : rightR a with
    | false =>
      rw [ha] at r1
      simp [awf_skip', awf_region', awf_seq', awf_cond', awf_block', awf_loop', awf_exit', awf_label', awf_ret', flK, floatY', yopsB_nil', yopsB_cons', ystep', setCells, setBlk]
      refine callK.pure r1 rfl rfl ?_
      simp [awf_skip', awf_region', awf_seq', awf_cond', awf_block', awf_loop', awf_exit', awf_label', awf_ret', flK, floatY', yopsB_nil', yopsB_cons', ystep', setCells, setBlk, reZ]
    | true =>
      rw [ha] at r1
      cases hb : rightR b with
      | false =>
        rw [hb] at r2
        simp [awf_skip', awf_region', awf_seq', awf_cond', awf_block', awf_loop', awf_exit', awf_label', awf_ret', flK, floatY', yopsB_nil', yopsB_cons', ystep', setCells, setBlk]
        refine callK.pure r1 rfl rfl ?_
        simp [awf_skip', awf_region', awf_seq', awf_cond', awf_block', awf_loop', awf_exit', awf_label', awf_ret', flK, floatY', yopsB_nil', yopsB_cons', ystep', setCells, setBlk]
        refine callK.pure r2 rfl rfl ?_
        simp [awf_skip', awf_region', awf_seq', awf_cond', awf_block', awf_loop', awf_exit', awf_label', awf_ret', flK, floatY', yopsB_nil', yopsB_cons', ystep', setCells, setBlk, reZ]
      | true =>
        rw [hb] at r2
        cases hc : rightR (meetB a b) with
        | false =>
          rw [hc] at r3
          simp [awf_skip', awf_region', awf_seq', awf_cond', awf_block', awf_loop', awf_exit', awf_label', awf_ret', flK, floatY', yopsB_nil', yopsB_cons', ystep', setCells, setBlk]
          refine callK.pure r1 rfl rfl ?_
          simp [awf_skip', awf_region', awf_seq', awf_cond', awf_block', awf_loop', awf_exit', awf_label', awf_ret', flK, floatY', yopsB_nil', yopsB_cons', ystep', setCells, setBlk]
          refine callK.pure r2 rfl rfl ?_
          simp [awf_skip', awf_region', awf_seq', awf_cond', awf_block', awf_loop', awf_exit', awf_label', awf_ret', flK, floatY', yopsB_nil', yopsB_cons', ystep', setCells, setBlk]
          refine callK.pure r3 rfl rfl ?_
          simp [awf_skip', awf_region', awf_seq', awf_cond', awf_block', awf_loop', awf_exit', awf_label', awf_ret', flK, floatY', yopsB_nil', yopsB_cons', ystep', setCells, setBlk, reZ]
        | true =>
          rw [hc] at r3
          simp [awf_skip', awf_region', awf_seq', awf_cond', awf_block', awf_loop', awf_exit', awf_label', awf_ret', flK, floatY', yopsB_nil', yopsB_cons', ystep', setCells, setBlk]
          refine callK.pure r1 rfl rfl ?_
          simp [awf_skip', awf_region', awf_seq', awf_cond', awf_block', awf_loop', awf_exit', awf_label', awf_ret', flK, floatY', yopsB_nil', yopsB_cons', ystep', setCells, setBlk]
          refine callK.pure r2 rfl rfl ?_
          simp [awf_skip', awf_region', awf_seq', awf_cond', awf_block', awf_loop', awf_exit', awf_label', awf_ret', flK, floatY', yopsB_nil', yopsB_cons', ystep', setCells, setBlk]
          refine callK.pure r3 rfl rfl ?_
          simp [awf_skip', awf_region', awf_seq', awf_cond', awf_block', awf_loop', awf_exit', awf_label', awf_ret', flK, floatY', yopsB_nil', yopsB_cons', ystep', setCells, setBlk]
end Go.Proofs.Ytdeemchhbgomjaa
