/- Regions: the law of forms. -/
import Derived.Test.YtoooldijnilpaaaVm
namespace Go.Proofs.Ytoooldijnilpaaa
set_option linter.all false
open Go.RowKit AM Can
set_option maxRecDepth 10000
attribute [local simp] aw_skip' aw_region' aw_seq' aw_cond' aw_block' aw_loop' aw_exit' aw_label' aw_ret' aops_nil' aops_cons' aop' aMove aAssign aPick aAlloc aBox aBuild aBuildSlice aLoad aLoadOwn aStore aStoreOwn isOwn delR aNilCheck aBin aMakeFunc aFieldAddr aField aIndexAddr aExtract aSliceOp aSlice aCallOp aCall' aLen aLenMap aDelete aMM aUn aConv aIface aAssert aMakeMap aLookup aMapUpdate aRange aNext aEntry entsOf keyB lookV aAppend putK layK eval evalV AM.valOf getF putF setF del SV.refers cellsAt rootSV plains shift ldV V.exact V.exactL V.ofValue V.ofPart V.ofCell V.cells V.one Value.oneCell' fitB qSeq qBlock getB afin aret resVs resV resTmps shareF evalS tupV valsS valsV pickV calm calmB lenV useOf feeds looks isT newsV partsV fillV putAt zerosV fitsNil nilB isEq isNeq awx_skip' awx_region' awx_seq' awx_cond' awx_block' awx_loop' awx_exit' awx_label' awx_ret' xops_nil' xops_cons' xop' xload xcall' addO delO inO putD memB Mix.effB Mix.laysB keysF badK subW weakV zeroRow yops_nil' yops_cons' yop' yload yindex yfield ylen oldO dropO takeO oldL exactB
attribute [local simp] awz_skip' awz_region' awz_seq' awz_cond' awz_block' awz_loop' awz_exit' awz_label' awz_ret' zops_nil' zops_cons' zop' zload zcall' z0 new0 remF old0 dltB

set_option maxHeartbeats 4000000 in
theorem forms_ok (a b : List Re) (hsm : (decide (a.length ≤ 12) && decide (b.length ≤ 12)) = true) (hb : bothR a b = 0) : PFn Try.prog 13 [slR a, slR b] (.sc (.bool true)) := by
  obtain ⟨h1, h2⟩ := bothR_ok.1 hb
  have hk := lknown
  have hs := lsmall a b
  have hU := rUnion a
  have hM := rMinus a b
  have hT := rMeet a b
  have hwa := refWrong a
  have hwb := lwrong a b
  have c1 := slR_closed a
  have c2 := slR_closed b
  have d1 := pairV_closed (unL a) 0
  have d2 := pairV_closed (opL lessB a b) 0
  have d3 := pairV_closed (opL andB a b) 0
  have e1 := slR_closed (unL a)
  have e2 := slR_closed (opL lessB a b)
  have e3 := slR_closed (opL andB a b)
  have n1 := unL_len a
  have n2 := opL_len lessB a b
  have n3 := opL_len andB a b
  rw [hsm] at hs
  rw [h1] at hU hwa
  rw [hb] at hM hT hwb
  have hok : PFn Try.prog 44 [slR a, .nil, .sc (.int .i64 0)] (slR (unL a)) ∧ PFn Try.prog 44 [slR a, slR b, .sc (.int .i64 1)] (slR (opL lessB a b)) ∧ PFn Try.prog 44 [slR a, slR b, .sc (.int .i64 2)] (slR (opL andB a b)) := by
    have f0 := (refFormL a [] 0 h1 wrong_nil).weak (WeakL.cons (WeakL.nil0 (sz := 4) (WeakL.refl _)))
    have f1 := refFormL a b 1 h1 h2
    have f2 := refFormL a b 2 h1 h2
    rw [how0] at f0
    rw [how1] at f1
    rw [how2] at f2
    unfold unL opL
    rw [if_pos hb, if_pos h1, if_pos hb]
    exact ⟨f0, f1, f2⟩
  obtain ⟨f0, f1, f2⟩ := hok
  have q1 := sameU (unL a) rfl (by omega)
  have q2 := sameU (opL lessB a b) rfl (by omega)
  have q3 := sameU (opL andB a b) rfl (by omega)
  generalize unL a = u at *
  generalize opL lessB a b = m at *
  generalize opL andB a b = t at *
  refine AFn.intro (fn := Try.f13) (by kernel_rfl) rfl (by kernel_rfl) (by simp) ?_
  simp only [Try.f13, argsF]
  refine AW.seq (AW.ofx [] mixed (by kernel_rfl) ?_)
  simp
  refine AW.seq (AW.ofx [] mixed (by kernel_rfl) ?_)
  simp
  refine callK.pure hs (by simp [V.closedL, c1, c2]) rfl ?_
  simp
  refine AW.seq (AW.ofx [] mixed (by kernel_rfl) ?_)
  simp
  refine callK.pure hU (by simp [V.closedL, c1]) d1 ?_
  simp [pairV]
  refine AW.seq (AW.ofx [] mixed (by kernel_rfl) ?_)
  simp
  refine callK.pure hM (by simp [V.closedL, c1, c2]) d2 ?_
  simp [pairV]
  refine AW.seq (AW.ofx [] mixed (by kernel_rfl) ?_)
  simp
  refine callK.pure hT (by simp [V.closedL, c1, c2]) d3 ?_
  simp [pairV]
  refine AW.sub [(0, .v (slR a)), (1, .v (slR b)), (5, .v (slR u)), (6, .v (.sc (.int .i64 0))), (7, .v (slR m)), (8, .v (.sc (.int .i64 0))), (9, .v (slR t)), (10, .v (.sc (.int .i64 0)))] (by simp [subF, getF]) ?_
  refine AW.seq (AW.ofx [] mixed (by kernel_rfl) ?_)
  simp
  refine callK.pure hwa (by simp [V.closedL, c1]) rfl ?_
  simp
  refine callK.pure hwb (by simp [V.closedL, c1, c2]) rfl ?_
  simp
  refine AW.seq (AW.ofx [] mixed (by kernel_rfl) ?_)
  simp
  refine AW.seq (AW.ofx [] mixed (by kernel_rfl) ?_)
  simp
  refine callK.pure f0 (by simp [V.closedL, V.closed, c1]) e1 ?_
  simp
  refine callK.pure q1 (by simp [V.closedL, e1]) rfl ?_
  simp
  refine callK.pure f1 (by simp [V.closedL, V.closed, c1, c2]) e2 ?_
  simp
  refine callK.pure q2 (by simp [V.closedL, e2]) rfl ?_
  simp
  refine callK.pure f2 (by simp [V.closedL, V.closed, c1, c2]) e3 ?_
  simp
  refine callK.pure q3 (by simp [V.closedL, e3]) rfl ?_
  simp
  refine callK.pure hk rfl rfl ?_
  simp
  refine AW.ofx [] mixed (by kernel_rfl) ?_
  simp
set_option maxHeartbeats 4000000 in
theorem forms_no (a b : List Re) (hsm : (decide (a.length ≤ 12) && decide (b.length ≤ 12)) = true) (hb : bothR a b ≠ 0) : PFn Try.prog 13 [slR a, slR b] (.sc (.bool true)) := by
  have hk := lknown
  have hs := lsmall a b
  have hU := rUnion a
  have hM := rMinus a b
  have hT := rMeet a b
  have hwa := refWrong a
  have hwb := lwrong a b
  have c1 := slR_closed a
  have c2 := slR_closed b
  have d1 := pairV_closed (unL a) (wrongR a)
  have d2 := pairV_closed [] (bothR a b)
  rw [hsm] at hs
  have hm : opL lessB a b = [] := by unfold opL; rw [if_neg hb]
  have ht : opL andB a b = [] := by unfold opL; rw [if_neg hb]
  rw [hm] at hM
  rw [ht] at hT
  have hu : wrongR a ≠ 0 → unL a = [] := fun h => by unfold unL; rw [if_neg h]
  generalize unL a = u at *
  generalize wrongR a = wa at *
  generalize bothR a b = wb at *
  have hw : (wb != 0) = true := by simpa using hb
  have hwn : (wb == 0) = false := by simpa using hb
  have w0 : IntKind.i64.wrap 0 = 0 := by decide
  refine AFn.intro (fn := Try.f13) (by kernel_rfl) rfl (by kernel_rfl) (by simp) ?_
  simp only [Try.f13, argsF]
  refine AW.seq (AW.ofx [] mixed (by kernel_rfl) ?_)
  simp
  refine AW.seq (AW.ofx [] mixed (by kernel_rfl) ?_)
  simp
  refine callK.pure hs (by simp [V.closedL, c1, c2]) rfl ?_
  simp
  refine AW.seq (AW.ofx [] mixed (by kernel_rfl) ?_)
  simp
  refine callK.pure hU (by simp [V.closedL, c1]) d1 ?_
  simp [pairV]
  refine AW.seq (AW.ofx [] mixed (by kernel_rfl) ?_)
  simp
  refine callK.pure hM (by simp [V.closedL, c1, c2]) d2 ?_
  simp [pairV]
  refine AW.seq (AW.ofx [] mixed (by kernel_rfl) ?_)
  simp
  refine callK.pure hT (by simp [V.closedL, c1, c2]) d2 ?_
  simp [pairV]
  refine AW.sub [(0, .v (slR a)), (1, .v (slR b)), (5, .v (slR u)), (6, .v (.sc (.int .i64 wa))), (7, .v (slR [])), (8, .v (.sc (.int .i64 wb))), (9, .v (slR [])), (10, .v (.sc (.int .i64 wb)))] (by simp [subF, getF]) ?_
  refine AW.seq (AW.ofx [] mixed (by kernel_rfl) ?_)
  simp
  refine callK.pure hwa (by simp [V.closedL, c1]) rfl ?_
  simp
  refine callK.pure hwb (by simp [V.closedL, c1, c2]) rfl ?_
  simp
  by_cases h0 : wa = 0
  · subst h0
    refine AW.seq (AW.ofx [] mixed (by kernel_rfl) ?_)
    simp [hw, hwn, slR, w0]
    refine callK.pure hk rfl rfl ?_
    simp
  · have hu' := hu h0
    subst hu'
    have h0n : (wa == 0) = false := by simpa using h0
    refine AW.seq (AW.ofx [] mixed (by kernel_rfl) ?_)
    simp [hw, hwn, slR, w0, h0n]
    refine callK.pure hk rfl rfl ?_
    simp
theorem forms_big (a b : List Re) (hsm : (decide (a.length ≤ 12) && decide (b.length ≤ 12)) = false) : PFn Try.prog 13 [slR a, slR b] (.sc (.bool true)) := by
  have hk := lknown
  have hs := lsmall a b
  have c1 := slR_closed a
  have c2 := slR_closed b
  rw [hsm] at hs
  refine AFn.intro (fn := Try.f13) (by kernel_rfl) rfl (by kernel_rfl) (by simp) ?_
  simp only [Try.f13, argsF]
  refine AW.seq (AW.ofx [] mixed (by kernel_rfl) ?_)
  simp
  refine AW.seq (AW.ofx [] mixed (by kernel_rfl) ?_)
  simp
  refine callK.pure hs (by simp [V.closedL, c1, c2]) rfl ?_
  simp
  refine callK.pure hk rfl rfl ?_
  simp
theorem formsLaw (a b : List Re) : PFn Try.prog 13 [slR a, slR b] (.sc (.bool true)) := by
  cases hsm : (decide (a.length ≤ 12) && decide (b.length ≤ 12)) with
  | false => exact forms_big a b hsm
  | true =>
    by_cases hb : bothR a b = 0
    · exact forms_ok a b hsm hb
    · exact forms_no a b hsm hb
end Go.Proofs.Ytoooldijnilpaaa
